/-
  Own data, its blocks in a set. Append, with what it leaves alone. No program is in sight here. / A field of an own slice's element written anew, with what was made since. No program is in sight here. / A boxed variable that owns what it holds. No program is in sight here. / Append to a field of an own slice's element, with what it leaves alone; own boxes. No program is in sight here.
-/
import Derived.Test.YthddcfbjgcbioaaGreatDoorVL
import Derived.Test.YthddcfbjgcbioaaGreatDoorVB
set_option linter.unusedVariables false
namespace Go.Vc
open Go.RowKit
open Rep (rd)
open Own (own)

/-- x is own, and its blocks are in S -/
def FS {α : Type} [Own α] (S : Nat → Prop) (w : World) (vs : List Value) (x : α) : Prop := ∃ F, own F w vs x ∧ F.Nodup ∧ ∀ b, b ∈ F → S b
section
variable {α β : Type} [Own α] [Own β] {S T : Nat → Prop} {w w' : World} {vs us : List Value} {x : α} {y : β}
theorem Fresh.fs {B m : Nat} (h : Fresh B m w vs x) : FS (fun b => B ≤ b ∧ b < m) w vs x := h
theorem FS.fresh {B m : Nat} (h : FS S w vs x) (hS : ∀ b, S b → b < w.heap.size → B ≤ b ∧ b < m) : Fresh B m w vs x := by
  obtain ⟨F, ho, hn, hb⟩ := h
  exact ⟨F, ho, hn, fun b hm => hS b (hb b hm) (Own.lt ho b hm)⟩
theorem FS.mono (h : FS S w vs x) (hS : ∀ b, S b → b < w.heap.size → T b) : FS T w vs x := by
  obtain ⟨F, ho, hn, hb⟩ := h
  exact ⟨F, ho, hn, fun b hm => hS b (hb b hm) (Own.lt ho b hm)⟩
theorem FS.keep (h : FS S w vs x) (hf : ∀ b, S b → b < w.heap.size → w'.heap[b]? = w.heap[b]?) : FS S w' vs x := by
  obtain ⟨F, ho, hn, hb⟩ := h
  exact ⟨F, Own.oframe (fun b hm => hf b (hb b hm) (Own.lt ho b hm)) ho, hn, hb⟩
theorem FS.alloc (h : FS S w vs x) (o : Obj) : FS S (w.alloc o) vs x := h.keep fun b _ hl => Below.heap_alloc w o b hl
theorem FS.drew (h : FS S w vs x) : FS S w.drew vs x := h.keep (w := w) fun _ _ _ => rfl
theorem FS.below {C : Nat} (h : FS S w vs x) (hb : Below C w w') (hS : ∀ b, S b → b < w.heap.size → b < C) : FS S w' vs x := h.keep fun b hs hl => hb.block b (hS b hs hl)
theorem FS.rd (h : FS S w vs x) : Rep.rd S w vs x := by
  obtain ⟨F, ho, _, hb⟩ := h
  exact Rep.mono hb (Own.rd_of ho)
theorem FS.cat (h : FS S w vs x) (k : FS T w us y) (hd : ∀ b, S b → T b → b < w.heap.size → False) : FS (fun b => S b ∨ T b) w (vs ++ us) (x, y) := by
  obtain ⟨F, ho, hn, hb⟩ := h
  obtain ⟨G, ko, kn, kb⟩ := k
  refine ⟨F ++ G, ⟨vs, us, F, G, rfl, rfl, ho, ko⟩, List.nodup_append.2 ⟨hn, kn, fun a ha b hbb e => ?_⟩, fun b hm => ?_⟩
  · subst e
    exact hd a (hb a ha) (kb a hbb) (Own.lt ho a ha)
  · rcases List.mem_append.1 hm with h | h
    · exact .inl (hb b h)
    · exact .inr (kb b h)
theorem FS.consL (h : own [] w vs x) (k : FS T w us y) : FS T w (vs ++ us) (x, y) := by
  obtain ⟨G, ko, kn, kb⟩ := k
  exact ⟨G, ⟨vs, us, [], G, rfl, rfl, h, ko⟩, kn, kb⟩
theorem FS.snocL (h : FS T w vs x) (k : own [] w us y) : FS T w (vs ++ us) (x, y) := by
  obtain ⟨G, ko, kn, kb⟩ := h
  exact ⟨G, ⟨vs, us, G, [], rfl, by simp, ko, k⟩, kn, kb⟩
theorem FS.leaf (h : own [] w vs x) : FS T w vs x := ⟨[], h, List.nodup_nil, fun b hb => by cases hb⟩
end
/-- an empty row that has been laid -/
theorem FS.empty {β : Type} [Own β] [Tid β] (hz : 0 < Rep.sz β) {g : Nat} {w : World} (hg : w.heap[g]? = some (.cells #[] (Tid.tid β) (0, 0))) : FS (fun b => b = g) w [.slice (some ⟨g, 0, none⟩) 0 0] ([] : List β) := by
  refine ⟨[g], ⟨_, [], [], rfl, ⟨by simp, .inr ⟨g, 0, #[], by simp, Nat.zero_le _, hg, by simp, by simp, by simp, by simp⟩⟩, by simp [Value.ownBlock], trivial, hz⟩, by simp, fun b hb => by simpa using hb⟩

theorem TouchF.ofBelow {F : List Nat} {w w' : World} (h : Below 0 w w') (hr : ∀ b, b < w.heap.size → b ∉ F → w'.heap[b]? = w.heap[b]?) : TouchF F w w' := ⟨h.os, h.tape, h.output, h.size, hr⟩
theorem TouchF.next {bx : Nat} {w0 w w' : World} (h : TouchF [bx] w0 w) (hB : Below 0 w w') (hr : ∀ k, k < w.heap.size → ¬ (k = bx ∨ w0.heap.size ≤ k) → w'.heap[k]? = w.heap[k]?) : TouchF [bx] w0 w' := by
  have h0 : Below 0 w0 w := h.below (Nat.zero_le _) (fun _ _ => Nat.zero_le _)
  refine TouchF.ofBelow (h0.trans hB) fun b hb hbF => (hr b (Nat.lt_of_lt_of_le hb h.size) ?_).trans (h.rest b hb hbF)
  intro hk
  rcases hk with hk | hk
  · exact hbF (by simp [hk])
  · omega
theorem TouchF.more {F : List Nat} {w0 w w' : World} (h : TouchF F w0 w) (hb : Below w.heap.size w w') : TouchF F w0 w' := h.trans (G := []) (TouchF.of_below hb) fun _ hx => by cases hx
/-- what an append gives -/
structure GrewS {α : Type} [Own α] [Tid α] (S : Nat → Prop) (w w' : World) (v' : Value) (xs : List α) : Prop where
  fs : FS (fun b => S b ∨ w.heap.size ≤ b) w' [v'] xs
  below : ∀ B, B ≤ w.heap.size → (∀ b, S b → b < w.heap.size → B ≤ b) → Below B w w'
  rest : ∀ b, b < w.heap.size → ¬ S b → w'.heap[b]? = w.heap[b]?
  size : w.heap.size ≤ w'.heap.size
/-- two appends at empty rows, one behind the other -/
theorem FS.two {α β : Type} [Own α] [Tid α] [Own β] [Tid β] {g1 g2 n : Nat} {W1 w5 W2 w6 : World} {v1 v2 : Value} {xs : List α} {ys : List β} (h1 : GrewS (fun b => b = g1) W1 w5 v1 xs) (h2 : GrewS (fun b => b = g2) W2 w6 v2 ys)
    (hW : ∀ b, b < w5.heap.size → W2.heap[b]? = w5.heap[b]?) (hs : w5.heap.size ≤ W2.heap.size) (hne : g2 ≠ g1) (hg : g2 < W1.heap.size ∨ w5.heap.size ≤ g2) (n1 : n ≤ g1) (n2 : n ≤ g2) (n3 : n ≤ W1.heap.size) : FS (fun b => n ≤ b) w6 [v1, v2] (xs, ys) := by
  have hz := h1.size
  have k1 := h1.fs.mono (T := fun b => (b = g1 ∨ W1.heap.size ≤ b) ∧ b < w5.heap.size) (fun b hb hl => ⟨hb, hl⟩)
  have k2 : FS _ W2 [v1] xs := k1.keep fun b hb _ => hW b hb.2
  have k3 : FS _ w6 [v1] xs := k2.keep fun b hb hl => h2.rest b hl (by intro (e : b = g2); omega)
  have k4 := k3.cat h2.fs (fun b h3 h4 _ => by
    have h5 : (b = g1 ∨ W1.heap.size ≤ b) ∧ b < w5.heap.size := h3
    have h6 : b = g2 ∨ W2.heap.size ≤ b := h4
    omega)
  exact k4.mono fun b hb _ => by
    have h5 : ((b = g1 ∨ W1.heap.size ≤ b) ∧ b < w5.heap.size) ∨ (b = g2 ∨ W2.heap.size ≤ b) := hb
    omega
section
variable {P : Program} {w w' : World} {α β : Type} [Own α] [Tid α] {S T : Nat → Prop} {v' : Value} {xs : List α}
theorem GrewS.cell (h : GrewS S w w' v' xs) {p : Addr} {u : Value} (hc : w.cell? p = some u) (hp : ¬ S p.block) : w'.cell? p = some u := by
  rw [World.cell?_of_block (w := w) (h.rest p.block (World.block_lt_of_cell? w p hc) hp)]; exact hc
theorem GrewS.slice [Rep β] {R : Nat → Prop} {a : Option Addr} {cap : Nat} {ys : List β} (h : GrewS S w w' v' xs) (hs : IsSlice R w a cap ys) (hS : ∀ b, R b → b < w.heap.size → ¬ S b) : IsSlice R w' a cap ys :=
  hs.frame fun b hb hl => ⟨h.rest b hl (hS b hb hl), hb⟩
theorem GrewS.other [Own β] {us : List Value} {y : β} (h : GrewS S w w' v' xs) (hf : FS T w us y) (hd : ∀ b, T b → b < w.heap.size → ¬ S b) : FS T w' us y := hf.keep fun b ht hl => h.rest b hl (hd b ht hl)
theorem GrewS.heap (h : GrewS S w w' v' xs) {b : Nat} {o : Obj} (hb : w.heap[b]? = some o) (hS : ¬ S b) : w'.heap[b]? = some o := (h.rest b (Array.getElem?_eq_some_iff.1 hb).1 hS).trans hb
theorem run_app_leafS [Leaf α] {t ty : TypeId} {bytes : Nat} (T : SlT P t α bytes) {v : Value} (h : FS S w [v] xs)
    {R : Nat → Prop} {a : Option Addr} {c : Nat} {ys : List α} (hy : IsSlice R w a c ys) (hbytes : (xs.length + ys.length) * bytes ≤ 140737488355328) (h63 : xs.length + ys.length ≤ maxLen) :
    ∃ a' c' w', (Builtin.append_ #[t, t] ty #[v, .slice a ys.length c]).run P w = .ok (.slice a' (xs.length + ys.length) c') w' ∧ GrewS S w w' (.slice a' (xs.length + ys.length) c') (xs ++ ys) := by
  obtain ⟨F, ho, hn, hb⟩ := h
  obtain ⟨ns, hcells, hall⟩ := hy.src
  obtain ⟨v', w', F', hr, ho', hn', hg, hF'⟩ := run_app (P := P) (ty := ty) T ho rfl hcells hall (by rw [flatten_replicate_nil, List.append_nil]; exact hn) hbytes h63
  have hown := own_ownBlock ho
  obtain ⟨a', c', rfl, _⟩ := rd_slice_elim (Own.rd_of ho')
  rw [List.length_append] at hr ho'
  have hlt := Own.lt ho
  refine ⟨a', c', w', hr, ⟨⟨F', ho', hn', fun b hbm => ?_⟩, ?_, ?_, ?_⟩⟩
  · rcases hF' b hbm with h | h | h
    · exact .inl (hb b h)
    · rw [flatten_replicate_nil] at h; cases h
    · exact .inr h
  · exact fun B hB hS => (Below.refl B w).grown hg hB fun k hk => hS k (hb k (hown k hk)) (hlt k (hown k hk))
  · exact fun b hbl hx => hg.block b hbl fun e => hx (hb b (hown b e.symm))
  · exact ((Below.refl 0 w).grown hg (Nat.zero_le _) fun k hk => Nat.zero_le _).size
theorem run_app_oneS {t ty : TypeId} {bytes : Nat} (L : SlT P t α bytes) {v : Value} (h : FS S w [v] xs)
    {g c : Nat} {cs : List Value} {e : TypeId} {y : α} (hgc : w.heap[g]? = some (.cells cs.toArray e (0, 0))) (hy : FS T w cs y) (hd : ∀ b, S b → T b → b < w.heap.size → False) (hbytes : (xs.length + 1) * bytes ≤ 140737488355328) (h63 : xs.length + 1 ≤ maxLen) :
    ∃ a' c' w', (Builtin.append_ #[t, t] ty #[v, .slice (some ⟨g, 0, none⟩) 1 c]).run P w = .ok (.slice a' (xs.length + 1) c') w' ∧ FS (fun b => S b ∨ T b ∨ w.heap.size ≤ b) w' [.slice a' (xs.length + 1) c'] (xs ++ [y]) ∧
      (∀ B, B ≤ w.heap.size → (∀ b, S b → b < w.heap.size → B ≤ b) → Below B w w') ∧ (∀ b, b < w.heap.size → ¬ S b → w'.heap[b]? = w.heap[b]?) := by
  obtain ⟨F, ho, hn, hb⟩ := h
  obtain ⟨G, hoy, hny, hby⟩ := hy
  have hcells : CellsAt w (some ⟨g, 0, none⟩) ([cs] : List (List Value)).flatten := by
    refine .inr ⟨_, rfl, fun j u hu => ?_⟩
    rw [addr_add, Nat.zero_add, cell_of_row w g j _ e (0, 0) hgc]
    simpa using hu
  have hlt := Own.lt ho
  obtain ⟨v', w', F', hr, ho', hn', hg, hF'⟩ := run_app (P := P) (ty := ty) L ho (a := some ⟨g, 0, none⟩) (c := c) (m := 1) (ys := [y]) rfl hcells (Gs := [G]) ⟨hoy, trivial⟩
    (by
      simp only [List.flatten_cons, List.flatten_nil, List.append_nil]
      refine List.nodup_append.2 ⟨hn, hny, fun a ha b hbb e => ?_⟩
      subst e
      exact hd a (hb a ha) (hby a hbb) (hlt a ha)) hbytes h63
  have hown := own_ownBlock ho
  obtain ⟨a', c', rfl, _⟩ := rd_slice_elim (Own.rd_of ho')
  rw [List.length_append] at hr ho'
  refine ⟨a', c', w', hr, ⟨F', ho', hn', fun b hbm => ?_⟩, ?_, ?_⟩
  · rcases hF' b hbm with h | h | h
    · exact .inl (hb b h)
    · simp at h
      exact .inr (.inl (hby b h))
    · exact .inr (.inr h)
  · exact fun B hB hS => (Below.refl B w).grown hg hB fun k hk => hS k (hb k (hown k hk)) (hlt k (hown k hk))
  · exact fun b hbl hx => hg.block b hbl fun e => hx (hb b (hown b e.symm))
section
variable {ops : Array Oper} {rest : List Oper} {o : Oper} {a : Act} {Q : Exit → Act → World → Prop} {K : Act → World → Prop} {E : Prop}
theorem step_app_leafS [Leaf α] {t : TypeId} {bytes : Nat} (T : SlT P t α bytes) (hg : o.guard = none) (s x : Operand) (hop : o.op = Op.call { callee := Callee.builtin Builtin.append, args := #[s, x], argTypes := #[t, t] })
    {v : Value} (hs : a.eval s = v) (h : FS S w [v] xs) {R : Nat → Prop} {ad : Option Addr} {n c : Nat} {ys : List α} (hx : a.eval x = .slice ad n c) (hn : n = ys.length) (hy : IsSlice R w ad c ys) (hbytes : (xs.length + ys.length) * bytes ≤ 140737488355328) (h63 : xs.length + ys.length ≤ maxLen)
    (hK : ∀ a' c' w', GrewS S w w' (.slice a' (xs.length + ys.length) c') (xs ++ ys) → K (a.put o.dst (.slice a' (xs.length + ys.length) c')) w') :
    if Region.wanted o (yielded ops a.tmps) = true then Oper.wp P o a w K Q else E := by
  have hw : Region.wanted o (yielded ops a.tmps) = true := by simp [Region.wanted, hg]
  rw [if_pos hw]
  subst hn
  obtain ⟨a', c', w', hr, hgr⟩ := run_app_leafS (P := P) (ty := o.type) T h hy hbytes h63
  unfold Oper.wp execOp
  simp only [hop, resolve, invoke, builtin, Sem.run_bind, Sem.run_pure, Result.andThen_ok, List.map_toArray, List.map_cons, List.map_nil, hs, hx, hr]
  exact hK a' c' w' hgr
theorem step_app_oneS {t : TypeId} {bytes : Nat} (L : SlT P t α bytes) (hg : o.guard = none) (s x : Operand) (hop : o.op = Op.call { callee := Callee.builtin Builtin.append, args := #[s, x], argTypes := #[t, t] })
    {v : Value} (hs : a.eval s = v) (h : FS S w [v] xs) {g c : Nat} {cs : List Value} {e : TypeId} {y : α} (hx : a.eval x = .slice (some ⟨g, 0, none⟩) 1 c) (hgc : w.heap[g]? = some (.cells cs.toArray e (0, 0))) (hy : FS T w cs y) (hd : ∀ b, S b → T b → b < w.heap.size → False)
    (hbytes : (xs.length + 1) * bytes ≤ 140737488355328) (h63 : xs.length + 1 ≤ maxLen)
    (hK : ∀ a' c' w', FS (fun b => S b ∨ T b ∨ w.heap.size ≤ b) w' [.slice a' (xs.length + 1) c'] (xs ++ [y]) → (∀ B, B ≤ w.heap.size → (∀ b, S b → b < w.heap.size → B ≤ b) → Below B w w') → (∀ b, b < w.heap.size → ¬ S b → w'.heap[b]? = w.heap[b]?) → K (a.put o.dst (.slice a' (xs.length + 1) c')) w') :
    if Region.wanted o (yielded ops a.tmps) = true then Oper.wp P o a w K Q else E := by
  have hw : Region.wanted o (yielded ops a.tmps) = true := by simp [Region.wanted, hg]
  rw [if_pos hw]
  obtain ⟨a', c', w', hr, h1, h2, h3⟩ := run_app_oneS (P := P) (ty := o.type) L h (c := c) hgc hy hd hbytes h63
  unfold Oper.wp execOp
  simp only [hop, resolve, invoke, builtin, Sem.run_bind, Sem.run_pure, Result.andThen_ok, List.map_toArray, List.map_cons, List.map_nil, hs, hx, hr]
  exact hK a' c' w' h1 h2 h3
theorem wpList_app_leafS [Leaf α] {t : TypeId} {bytes : Nat} (T : SlT P t α bytes) (hgd : o.guard = none) (s x : Operand) (ho : o.op = .call { callee := .builtin .append, args := #[s, x], argTypes := #[t, t] })
    {v : Value} (hs : a.eval s = v) (h : FS S w [v] xs) {R : Nat → Prop} {ad : Option Addr} {n c : Nat} {ys : List α} (hx : a.eval x = .slice ad n c) (hn : n = ys.length) (hy : IsSlice R w ad c ys) (hbytes : (xs.length + ys.length) * bytes ≤ 140737488355328) (h63 : xs.length + ys.length ≤ maxLen)
    (k : ∀ a' c' w', GrewS S w w' (.slice a' (xs.length + ys.length) c') (xs ++ ys) → wpList P ops Q rest (a.put o.dst (.slice a' (xs.length + ys.length) c')) w') : wpList P ops Q (o :: rest) a w := by
  refine wpList_plain hgd fun K hK => ?_
  subst hn
  obtain ⟨a', c', w', hr, hg⟩ := run_app_leafS (P := P) (ty := o.type) T h hy hbytes h63
  unfold Oper.wp execOp
  simp only [ho, resolve, invoke, builtin, Sem.run_bind, Sem.run_pure, Result.andThen_ok, List.map_toArray, List.map_cons, List.map_nil, hs, hx, hr]
  exact hK _ _ (k a' c' w' hg)
theorem wpList_app_oneS {t : TypeId} {bytes : Nat} (L : SlT P t α bytes) (hgd : o.guard = none) (s x : Operand) (ho : o.op = .call { callee := .builtin .append, args := #[s, x], argTypes := #[t, t] })
    {v : Value} (hs : a.eval s = v) (h : FS S w [v] xs) {g c : Nat} {cs : List Value} {e : TypeId} {y : α} (hx : a.eval x = .slice (some ⟨g, 0, none⟩) 1 c) (hgc : w.heap[g]? = some (.cells cs.toArray e (0, 0))) (hy : FS T w cs y) (hd : ∀ b, S b → T b → b < w.heap.size → False)
    (hbytes : (xs.length + 1) * bytes ≤ 140737488355328) (h63 : xs.length + 1 ≤ maxLen)
    (k : ∀ a' c' w', FS (fun b => S b ∨ T b ∨ w.heap.size ≤ b) w' [.slice a' (xs.length + 1) c'] (xs ++ [y]) → (∀ B, B ≤ w.heap.size → (∀ b, S b → b < w.heap.size → B ≤ b) → Below B w w') → (∀ b, b < w.heap.size → ¬ S b → w'.heap[b]? = w.heap[b]?) → wpList P ops Q rest (a.put o.dst (.slice a' (xs.length + 1) c')) w') : wpList P ops Q (o :: rest) a w := by
  refine wpList_plain hgd fun K hK => ?_
  obtain ⟨a', c', w', hr, h1, h2, h3⟩ := run_app_oneS (P := P) (ty := o.type) L h (c := c) hgc hy hd hbytes h63
  unfold Oper.wp execOp
  simp only [ho, resolve, invoke, builtin, Sem.run_bind, Sem.run_pure, Result.andThen_ok, List.map_toArray, List.map_cons, List.map_nil, hs, hx, hr]
  exact hK _ _ (k a' c' w' h1 h2 h3)
end
end
end Go.Vc
namespace Go.Vc
open Go.RowKit
open Rep (rd)
open Own (own)

section
variable {w : World} {α β : Type} [Own α] [Tid α] [Own β]
theorem Fresh.setL {f : Nat} {get : α → β} {put : α → β → α} (L : Lens α β f get put) {B m g n cap : Nat} {xs : List α} (h : Fresh B m w [.slice (some ⟨g, 0, none⟩) n cap] xs) (hB : B ≤ w.heap.size) {i : Nat} (hi : i < xs.length)
    {w1 : World} (hbw : Below w.heap.size w w1) {u : Value} {y : β} {m1 : Nat} (hy : Fresh w.heap.size m1 w1 [u] y) :
    (∃ u', w1.cell? ⟨g, i * Rep.sz α + f, none⟩ = some u') ∧ w1.frozen? ⟨g, i * Rep.sz α + f, none⟩ = false ∧ B ≤ g ∧
      Fresh B (w1.setCell ⟨g, i * Rep.sz α + f, none⟩ u).heap.size (w1.setCell ⟨g, i * Rep.sz α + f, none⟩ u) [.slice (some ⟨g, 0, none⟩) n cap] (xs.set i (put xs[i] y)) := by
  obtain ⟨F, ho, hn, hb⟩ := h
  obtain ⟨G, hoy, hnG, hbG⟩ := hy
  obtain ⟨ce, Fi, hoi, hsub, hnFi, hgFi, hgF, hcells, hfz, hfoc⟩ := own_focus ho hn hi
  obtain ⟨hf, hL⟩ := L
  obtain ⟨F1, Fl, F2, lv, hlv, rfl, hol, hput⟩ := hL Fi w ce xs[i] hoi
  obtain ⟨hn1, hn23, hd1⟩ := List.nodup_append.1 hnFi
  obtain ⟨hnl', hn2, hd2⟩ := List.nodup_append.1 hn23
  have hcell := hcells f lv hlv
  have hglt : g < w.heap.size := World.block_lt_of_cell? w _ hcell
  have hgb : w1.heap[g]? = w.heap[g]? := hbw.block g hglt
  have hltF : ∀ b, b ∈ F1 ++ (Fl ++ F2) → b < w.heap.size := Own.lt hoi
  refine ⟨⟨_, by rw [World.cell?_of_block (w := w) hgb]; exact hcell⟩, by rw [World.frozen?_of_block (w := w) hgb]; exact hfz _, (hb g hgF).1, ?_⟩
  have hol' : own G (w1.setCell ⟨g, i * Rep.sz α + f, none⟩ u) [u] y :=
    Own.oframe (fun b hbm => Below.heap_setCell w1 _ _ b fun e => by
      simp only at e
      subst e
      have := (hbG b hbm).1
      omega) hoy
  have hin : ∀ b, b ∈ F1 ++ F2 → b ∈ F1 ++ (Fl ++ F2) := fun b hbm => by
    rcases List.mem_append.1 hbm with h | h
    · exact List.mem_append.2 (.inl h)
    · exact List.mem_append.2 (.inr (List.mem_append.2 (.inr h)))
  have hkeep : ∀ b, b ∈ F1 ++ F2 → (w1.setCell ⟨g, i * Rep.sz α + f, none⟩ u).heap[b]? = w.heap[b]? := fun b hbm => by
    rw [Below.heap_setCell w1 _ _ b fun e => hgFi (by simp only at e; rw [← e]; exact hin b hbm)]
    exact hbw.block b (hltF b (hin b hbm))
  have hfl' : ∀ b, b ∈ G → b ∉ F1 ∧ b ∉ F2 := fun b hbm => by
    have h := (hbG b hbm).1
    exact ⟨fun h1 => by have := hltF b (List.mem_append.2 (.inl h1)); omega, fun h1 => by have := hltF b (List.mem_append.2 (.inr (List.mem_append.2 (.inr h1)))); omega⟩
  have hlce : ce.length = Rep.sz α := Rep.len (Own.rd_of hoi)
  obtain ⟨FF, hoF, hnF, hFF⟩ := hfoc _ (ce.set f u) (put xs[i] y) (F1 ++ (G ++ F2)) (hput _ G _ _ hkeep hol')
    (List.nodup_append.2 ⟨hn1, List.nodup_append.2 ⟨hnG, hn2, fun a ha b hbb e => (hfl' a ha).2 (e ▸ hbb)⟩, fun a ha b hbb e => by
      subst e
      rcases List.mem_append.1 hbb with h | h
      · exact (hfl' a h).1 ha
      · exact hd1 a ha a (List.mem_append.2 (.inr h)) rfl⟩)
    (fun b hbm => by
      rcases List.mem_append.1 hbm with h | h
      · exact .inl (List.mem_append.2 (.inl h))
      · rcases List.mem_append.1 h with h | h
        · exact .inr (hbG b h).1
        · exact .inl (List.mem_append.2 (.inr (List.mem_append.2 (.inr h)))))
    (fun b hbl2 hbF hbg => by
      rw [Below.heap_setCell w1 _ _ b hbg]
      exact hbw.block b hbl2)
    (fun cur e hgc => by
      have hgc1 : w1.heap[g]? = some (.cells cur e (0, 0)) := hgb.trans hgc
      refine ⟨_, heap_setCell_same w1 g _ cur e _ hgc1, by simp, fun j hj => ?_, fun j hj => ?_⟩
      · by_cases hjf : j = f
        · subst hjf
          have hlt : i * Rep.sz α + j < cur.size := by
            have := hcell
            rw [cell_of_row w g _ cur e (0, 0) hgc] at this
            exact (Array.getElem?_eq_some_iff.1 this).1
          rw [Array.getElem?_setIfInBounds_self_of_lt hlt, List.getElem?_set_self (by omega)]
        · rw [Array.getElem?_setIfInBounds_ne (by omega), List.getElem?_set_ne (by omega)]
          have hjc : ce[j]? = some (ce[j]'(by omega)) := List.getElem?_eq_getElem _
          have := hcells j _ hjc
          rw [cell_of_row w g _ cur e (0, 0) hgc] at this
          rw [this, hjc]
      · rw [Array.getElem?_setIfInBounds_ne (by omega)])
  exact ⟨FF, hoF, hnF, fun b hbm => ⟨by
    rcases hFF b hbm with h | h
    · exact (hb b h).1
    · omega, Own.lt hoF b hbm⟩⟩
end
end Go.Vc
namespace Go.Vc
open Go.RowKit
open Rep (rd)
open Own (own)

/-- a variable in memory -/
structure Box (α : Type) where
  val : α
instance repBox {α : Type} [Rep α] : Rep (Box α) where
  sz := 1
  rd := fun S w vs x => ∃ b cs e, vs = [.pointer (some ⟨b, 0, none⟩)] ∧ S b ∧ w.heap[b]? = some (.cells (List.toArray cs) e (0, 0)) ∧ rd S w cs x.val
  len := fun ⟨_, _, _, h, _⟩ => by rw [h]; rfl
  one := fun ⟨_, _, _, h, _⟩ => by rw [h]; intro u hu; simp at hu; rw [hu]; rfl
  frame := fun h ⟨b, cs, e, hv, hs, hh, hr⟩ => by
    have hl := (Array.getElem?_eq_some_iff.1 hh).1
    exact ⟨b, cs, e, hv, (h b hs hl).2, by rw [(h b hs hl).1]; exact hh, Rep.frame h hr⟩
instance ownBox {α : Type} [Own α] : Own (Box α) where
  own := fun F w vs x => ∃ b cs e G, vs = [.pointer (some ⟨b, 0, none⟩)] ∧ w.heap[b]? = some (.cells (List.toArray cs) e (0, 0)) ∧ own G w cs x.val ∧ F = b :: G
  rd_of := fun ⟨b, cs, e, G, hv, hh, ho, hF⟩ => ⟨b, cs, e, hv, by rw [hF]; simp, hh, Rep.mono (fun k hk => by rw [hF]; simp [hk]) (Own.rd_of ho)⟩
  oframe := fun h ⟨b, cs, e, G, hv, hh, ho, hF⟩ => ⟨b, cs, e, G, hv, by rw [h b (by rw [hF]; simp)]; exact hh, Own.oframe (fun k hk => h k (by rw [hF]; simp [hk])) ho, hF⟩
  lt := fun ⟨b, cs, e, G, hv, hh, ho, hF⟩ k hk => by
    rw [hF] at hk
    rcases List.mem_cons.1 hk with rfl | hk
    · exact (Array.getElem?_eq_some_iff.1 hh).1
    · exact Own.lt ho k hk

section
variable {α : Type} [Own α] {w : World} {B m b : Nat} {x : α}
/-- what a boxed variable holds -/
theorem Fresh.unbox (h : Fresh B m w [.pointer (some ⟨b, 0, none⟩)] (⟨x⟩ : Box α)) : ∃ cs e, w.heap[b]? = some (.cells (List.toArray cs) e (0, 0)) ∧ Fresh B m w cs x ∧ B ≤ b ∧ b < m := by
  obtain ⟨F, ⟨b', cs, e, G, hv, hh, ho, rfl⟩, hn, hb⟩ := h
  simp at hv
  subst hv
  exact ⟨cs, e, hh, ⟨G, ho, (List.nodup_cons.1 hn).2, fun k hk => hb k (by simp [hk])⟩, hb b (by simp)⟩
theorem Fresh.box {cs : List Value} {e : TypeId} (h : Fresh B m w cs x) (hB : B ≤ w.heap.size) : Fresh B (w.heap.size + 1) (w.alloc (.cells (List.toArray cs) e)) [.pointer (some ⟨w.heap.size, 0, none⟩)] (⟨x⟩ : Box α) := by
  obtain ⟨G, ho, hn, hb⟩ := h
  have hl := Own.lt ho
  refine ⟨w.heap.size :: G, ⟨w.heap.size, cs, e, G, rfl, heap_alloc_new _ _, Own.oframe (fun k hk => Below.heap_alloc w _ k (hl k hk)) ho, rfl⟩, List.nodup_cons.2 ⟨fun hm => ?_, hn⟩, fun k hk => ?_⟩
  · have := hl _ hm; omega
  · rcases List.mem_cons.1 hk with rfl | hk
    · omega
    · have := hl k hk
      exact ⟨(hb k hk).1, by omega⟩
/-- a boxed variable set -/
theorem Fresh.setbox {m' : Nat} {y : α} {d : List Value} (h : Fresh B m w [.pointer (some ⟨b, 0, none⟩)] (⟨x⟩ : Box α)) (hy : Fresh m m' w d y) (hB : B ≤ m) :
    Fresh B w.heap.size (setCellsAt w b 0 d) [.pointer (some ⟨b, 0, none⟩)] (⟨y⟩ : Box α) := by
  obtain ⟨cs, e, hh, hx, hb1, hb2⟩ := h.unbox
  obtain ⟨F, ho, _, _⟩ := hx
  obtain ⟨G, go, gn, gb⟩ := hy
  have l1 := Rep.len (Own.rd_of ho)
  have l2 := Rep.len (Own.rd_of go)
  have hset : (setAll cs.toArray 0 d) = d.toArray := by
    apply Array.ext'
    rw [setAll_toList _ _ _ (by simp; omega)]
    simp
    omega
  have hbG : b ∉ G := fun hm => by have := gb b hm; omega
  have hlt := (Array.getElem?_eq_some_iff.1 hh).1
  refine ⟨b :: G, ⟨b, d, e, G, rfl, ?_, Own.oframe (fun k hk => setCellsAt_rest b k (fun e => hbG (e ▸ hk)) d w 0) go, rfl⟩, List.nodup_cons.2 ⟨hbG, gn⟩, fun k hk => ?_⟩
  · have := setCellsAt_heap b d w 0 _ _ hh
    rw [hset] at this
    exact this
  · rcases List.mem_cons.1 hk with rfl | hk
    · exact ⟨hb1, hlt⟩
    · have := gb k hk
      have := Own.lt go k hk
      omega
end
end Go.Vc
namespace Go.Vc
open Go.RowKit
open Rep (rd)
open Own (own)

section
variable {P : Program} {w : World} {α β : Type} [Own α] [Tid α] [Own β] [Tid β]
/-- 'append(out[i].field, ys...)', and the store of what it gives -/
theorem run_app_lensS [Leaf β] {f : Nat} {get : α → List β} {put : α → List β → α} (L : Lens α (List β) f get put) {t ty : TypeId} {bytes : Nat} (T : SlT P t β bytes) {S0 : Nat → Prop} {g n cap : Nat} {xs : List α}
    (h : FS S0 w [.slice (some ⟨g, 0, none⟩) n cap] xs) {i : Nat} (hi : i < xs.length) {al : Option Addr} {nl cl : Nat} (hcell : w.cell? ⟨g, i * Rep.sz α + f, none⟩ = some (.slice al nl cl))
    {S : Nat → Prop} {a : Option Addr} {c : Nat} {ys : List β} (hy : IsSlice S w a c ys) (hbytes : ((get xs[i]).length + ys.length) * bytes ≤ 140737488355328) (h63 : (get xs[i]).length + ys.length ≤ maxLen) :
    ∃ a' c' w1, (Builtin.append_ #[t, t] ty #[.slice al nl cl, .slice a ys.length c]).run P w = .ok (.slice a' (nl + ys.length) c') w1 ∧ nl = (get xs[i]).length ∧
      (∃ u, w1.cell? ⟨g, i * Rep.sz α + f, none⟩ = some u) ∧ w1.frozen? ⟨g, i * Rep.sz α + f, none⟩ = false ∧ Below 0 w w1 ∧ (∀ b, b < w.heap.size → ¬ S0 b → w1.heap[b]? = w.heap[b]?) ∧ S0 g ∧
      FS (fun b => S0 b ∨ w.heap.size ≤ b) (w1.setCell ⟨g, i * Rep.sz α + f, none⟩ (.slice a' (nl + ys.length) c')) [.slice (some ⟨g, 0, none⟩) n cap] (xs.set i (put xs[i] (get xs[i] ++ ys))) := by
  obtain ⟨F, ho, hn, hb⟩ := h
  obtain ⟨ce, Fi, hoi, hsub, hnFi, hgFi, hgF, hcells, hfz, hfoc⟩ := own_focus ho hn hi
  obtain ⟨hf, hL⟩ := L
  obtain ⟨F1, Fl, F2, lv, hlv, rfl, hol, hput⟩ := hL Fi w ce xs[i] hoi
  have hlv' : lv = .slice al nl cl := by
    have := hcells f lv hlv
    rw [hcell] at this
    simp at this
    exact this.symm
  subst hlv'
  have hnl : nl = (get xs[i]).length := (rd_slice_of (Own.rd_of hol)).1
  obtain ⟨hn1, hn23, hd1⟩ := List.nodup_append.1 hnFi
  obtain ⟨hnl', hn2, hd2⟩ := List.nodup_append.1 hn23
  obtain ⟨ns, hsrc, hall⟩ := hy.src
  obtain ⟨v', w1, Fl', hr, ho', hn', hg, hF'⟩ := run_app (P := P) (ty := ty) T hol (a := a) (c := c) rfl hsrc hall (by rw [flatten_replicate_nil, List.append_nil]; exact hnl') hbytes h63
  obtain ⟨a', c', rfl, _⟩ := rd_slice_elim (Own.rd_of ho')
  rw [List.length_append, ← hnl] at hr ho'
  have hbl : ∀ b, (Value.slice al nl cl).ownBlock = some b → b ∈ Fl := own_ownBlock hol
  have hF'' : ∀ b, b ∈ Fl' → b ∈ Fl ∨ w.heap.size ≤ b := fun b hb => by
    rcases hF' b hb with h | h | h
    · exact .inl h
    · rw [flatten_replicate_nil] at h; cases h
    · exact .inr h
  have hglt : g < w.heap.size := World.block_lt_of_cell? w _ hcell
  have hgb : w1.heap[g]? = w.heap[g]? := hg.block g hglt fun e => hgFi (by simp [hbl g e.symm])
  have hltF : ∀ b, b ∈ F1 ++ (Fl ++ F2) → b < w.heap.size := Own.lt hoi
  refine ⟨a', c', w1, hr, hnl, ⟨_, by rw [World.cell?_of_block (w := w) hgb]; exact hcell⟩, by rw [World.frozen?_of_block (w := w) hgb]; exact hfz _, (Below.refl 0 w).grown hg (Nat.zero_le _) fun _ _ => Nat.zero_le _, fun b hbl2 hx => hg.block b hbl2 fun e => hx (hb b (hsub b (by simp [hbl b e.symm]))), hb g hgF, ?_⟩
  have hol' : own Fl' (w1.setCell ⟨g, i * Rep.sz α + f, none⟩ (.slice a' (nl + ys.length) c')) [.slice a' (nl + ys.length) c'] (get xs[i] ++ ys) :=
    Own.oframe (fun b hbm => Below.heap_setCell w1 _ _ b fun e => by
      simp only at e
      subst e
      rcases hF'' b hbm with h | h
      · exact hgFi (by simp [h])
      · omega) ho'
  have hkeep : ∀ b, b ∈ F1 ++ F2 → (w1.setCell ⟨g, i * Rep.sz α + f, none⟩ (.slice a' (nl + ys.length) c')).heap[b]? = w.heap[b]? := fun b hbm => by
    have hbF : b ∈ F1 ++ (Fl ++ F2) := by
      rcases List.mem_append.1 hbm with h | h
      · exact List.mem_append.2 (.inl h)
      · exact List.mem_append.2 (.inr (List.mem_append.2 (.inr h)))
    rw [Below.heap_setCell w1 _ _ b fun e => hgFi (by simp only at e; rw [← e]; exact hbF)]
    refine hg.block b (hltF b hbF) fun e => ?_
    have hbl' := hbl b e.symm
    rcases List.mem_append.1 hbm with h | h
    · exact hd1 b h b (List.mem_append.2 (.inl hbl')) rfl
    · exact hd2 b hbl' b h rfl
  have hfl' : ∀ b, b ∈ Fl' → b ∉ F1 ∧ b ∉ F2 := fun b hbm => by
    rcases hF'' b hbm with h | h
    · exact ⟨fun h1 => hd1 b h1 b (List.mem_append.2 (.inl h)) rfl, fun h1 => hd2 b h b h1 rfl⟩
    · exact ⟨fun h1 => by have := hltF b (List.mem_append.2 (.inl h1)); omega, fun h1 => by have := hltF b (List.mem_append.2 (.inr (List.mem_append.2 (.inr h1)))); omega⟩
  have hlce : ce.length = Rep.sz α := Rep.len (Own.rd_of hoi)
  obtain ⟨FF, hoF, hnF, hFF⟩ := hfoc _ (ce.set f (.slice a' (nl + ys.length) c')) (put xs[i] (get xs[i] ++ ys)) (F1 ++ (Fl' ++ F2)) (hput _ Fl' _ _ hkeep hol')
    (List.nodup_append.2 ⟨hn1, List.nodup_append.2 ⟨hn', hn2, fun a ha b hbb e => (hfl' a ha).2 (e ▸ hbb)⟩, fun a ha b hbb e => by
      subst e
      rcases List.mem_append.1 hbb with h | h
      · exact (hfl' a h).1 ha
      · exact hd1 a ha a (List.mem_append.2 (.inr h)) rfl⟩)
    (fun b hbm => by
      rcases List.mem_append.1 hbm with h | h
      · exact .inl (List.mem_append.2 (.inl h))
      · rcases List.mem_append.1 h with h | h
        · rcases hF'' b h with h | h
          · exact .inl (List.mem_append.2 (.inr (List.mem_append.2 (.inl h))))
          · exact .inr h
        · exact .inl (List.mem_append.2 (.inr (List.mem_append.2 (.inr h)))))
    (fun b hbl2 hbF hbg => by
      rw [Below.heap_setCell w1 _ _ b hbg]
      exact hg.block b hbl2 fun e => hbF (List.mem_append.2 (.inr (List.mem_append.2 (.inl (hbl b e.symm))))))
    (fun cur e hgc => by
      have hgc1 : w1.heap[g]? = some (.cells cur e (0, 0)) := hgb.trans hgc
      refine ⟨_, heap_setCell_same w1 g _ cur e _ hgc1, by simp, fun j hj => ?_, fun j hj => ?_⟩
      · by_cases hjf : j = f
        · subst hjf
          have hlt : i * Rep.sz α + j < cur.size := by
            have := hcell
            rw [cell_of_row w g _ cur e (0, 0) hgc] at this
            exact (Array.getElem?_eq_some_iff.1 this).1
          rw [Array.getElem?_setIfInBounds_self_of_lt hlt, List.getElem?_set_self (by omega)]
        · rw [Array.getElem?_setIfInBounds_ne (by omega), List.getElem?_set_ne (by omega)]
          have hjc : ce[j]? = some (ce[j]'(by omega)) := List.getElem?_eq_getElem _
          have := hcells j _ hjc
          rw [cell_of_row w g _ cur e (0, 0) hgc] at this
          rw [this, hjc]
      · rw [Array.getElem?_setIfInBounds_ne (by omega)])
  exact ⟨FF, hoF, hnF, fun b hbm => by
    rcases hFF b hbm with h | h
    · exact .inl (hb b h)
    · exact .inr h⟩
end
section
variable {P : Program} {ops : Array Oper} {o : Oper} {a : Act} {w : World} {K : Act → World → Prop} {Q : Exit → Act → World → Prop} {E : Prop} {α β : Type} [Own α] [Tid α] [Own β] [Tid β]
/-- the same as one step of a region that draws -/
theorem step_app_lensS [Leaf β] {f : Nat} {get : α → List β} {put : α → List β → α} (L : Lens α (List β) f get put) {t : TypeId} {bytes : Nat} (T : SlT P t β bytes) (hg : o.guard = none) (s x : Operand) (hop : o.op = Op.call { callee := Callee.builtin Builtin.append, args := #[s, x], argTypes := #[t, t] })
    {S0 : Nat → Prop} {g n cap : Nat} {xs : List α} (h : FS S0 w [.slice (some ⟨g, 0, none⟩) n cap] xs) {i : Nat} (hi : i < xs.length) {al : Option Addr} {nl cl : Nat} (hs : a.eval s = .slice al nl cl)
    (hcell : w.cell? ⟨g, i * Rep.sz α + f, none⟩ = some (.slice al nl cl))
    {S : Nat → Prop} {ad : Option Addr} {k c : Nat} {ys : List β} (hx : a.eval x = .slice ad k c) (hk : k = ys.length) (hy : IsSlice S w ad c ys) (hbytes : ((get xs[i]).length + ys.length) * bytes ≤ 140737488355328) (h63 : (get xs[i]).length + ys.length ≤ maxLen)
    (hK : ∀ a' c' w1, (∃ u, w1.cell? ⟨g, i * Rep.sz α + f, none⟩ = some u) → w1.frozen? ⟨g, i * Rep.sz α + f, none⟩ = false → Below 0 w w1 → (∀ b, b < w.heap.size → ¬ S0 b → w1.heap[b]? = w.heap[b]?) → S0 g →
      FS (fun b => S0 b ∨ w.heap.size ≤ b) (w1.setCell ⟨g, i * Rep.sz α + f, none⟩ (.slice a' (nl + k) c')) [.slice (some ⟨g, 0, none⟩) n cap] (xs.set i (put xs[i] (get xs[i] ++ ys))) →
      K (a.put o.dst (.slice a' (nl + k) c')) w1) :
    if Region.wanted o (yielded ops a.tmps) = true then Oper.wp P o a w K Q else E := by
  have hw : Region.wanted o (yielded ops a.tmps) = true := by simp [Region.wanted, hg]
  rw [if_pos hw]
  subst hk
  obtain ⟨a', c', w1, hr, _, h1, h2, h3, h4, h5, h6⟩ := run_app_lensS (P := P) (ty := o.type) L T h hi hcell hy hbytes h63
  unfold Oper.wp execOp
  simp only [hop, resolve, invoke, builtin, Sem.run_bind, Sem.run_pure, Result.andThen_ok, List.map_toArray, List.map_cons, List.map_nil, hs, hx, hr]
  exact hK a' c' w1 h1 h2 h3 h4 h5 h6
end
section
variable {α : Type} [Own α] {w : World} {b : Nat} {x y : α} {S T : Nat → Prop}
theorem FS.unbox (h : FS S w [.pointer (some ⟨b, 0, none⟩)] (⟨x⟩ : Box α)) : ∃ cs e, w.heap[b]? = some (.cells (List.toArray cs) e (0, 0)) ∧ FS (fun k => S k ∧ k ≠ b) w cs x ∧ S b := by
  obtain ⟨F, ⟨b', cs, e, G, hv, hh, ho, rfl⟩, hn, hb⟩ := h
  simp at hv
  subst hv
  exact ⟨cs, e, hh, ⟨G, ho, (List.nodup_cons.1 hn).2, fun k hk => ⟨hb k (by simp [hk]), fun e => (List.nodup_cons.1 hn).1 (e ▸ hk)⟩⟩, hb b (by simp)⟩
theorem FS.box {cs : List Value} {e : TypeId} (hh : w.heap[b]? = some (.cells (List.toArray cs) e (0, 0))) (h : FS T w cs x) (hT : ¬ T b) : FS (fun k => k = b ∨ T k) w [.pointer (some ⟨b, 0, none⟩)] (⟨x⟩ : Box α) := by
  obtain ⟨G, ho, hn, hb⟩ := h
  exact ⟨b :: G, ⟨b, cs, e, G, rfl, hh, ho, rfl⟩, List.nodup_cons.2 ⟨fun hm => hT (hb b hm), hn⟩, fun k hk => by
    rcases List.mem_cons.1 hk with rfl | hk
    · exact .inl rfl
    · exact .inr (hb k hk)⟩
/-- a box of one cell set -/
theorem FS.setbox1 {u u0 : Value} {te : TypeId} (hh : w.heap[b]? = some (.cells (List.toArray [u0]) te (0, 0))) (h : FS T w [u] y) (hT : ¬ T b) : FS (fun k => k = b ∨ T k) (w.setCell ⟨b, 0, none⟩ u) [.pointer (some ⟨b, 0, none⟩)] (⟨y⟩ : Box α) := by
  have h' : FS T (w.setCell ⟨b, 0, none⟩ u) [u] y := h.keep fun k hk _ => Below.heap_setCell w _ _ k (fun e => hT (by have e' : k = b := e; rw [← e']; exact hk))
  refine FS.box (e := te) ?_ h' hT
  have := heap_setCell_same w b 0 _ te u hh
  simpa using this
theorem FS.addr {α : Type} [Own α] [Tid α] {S : Nat → Prop} {w : World} {a : Option Addr} {n cap : Nat} {xs : List α} (h : FS S w [.slice a n cap] xs) (hx : 0 < xs.length) : ∃ g, a = some ⟨g, 0, none⟩ ∧ S g := by
  obtain ⟨F, ho, _, hb⟩ := h
  obtain ⟨g, hg, hm⟩ := own_addr ho hx
  exact ⟨g, hg, hb g hm⟩
theorem box_cell {w : World} {b : Nat} {u : Value} {e : TypeId} (hh : w.heap[b]? = some (.cells (List.toArray [u]) e (0, 0))) : w.cell? ⟨b, 0, none⟩ = some u ∧ w.frozen? ⟨b, 0, none⟩ = false := by
  refine ⟨?_, frozen_of_row w b 0 _ e hh⟩
  rw [cell_of_row w b 0 _ e (0, 0) hh]; simp
end
end Go.Vc
