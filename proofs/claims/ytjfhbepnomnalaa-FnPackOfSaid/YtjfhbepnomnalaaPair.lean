/-
  Two slices that a call grows side by side. No program is in sight here.
-/
import Derived.Test.YtjfhbepnomnalaaSetL
set_option linter.unusedVariables false
namespace Go.Vc
open Go.RowKit
open Rep (rd)
open Own (own)

section
variable {w : World} {α β : Type} [Own α] [Own β] [Tid α] [Tid β]
theorem own_pair {F : List Nat} {v u : Value} {xs : List α} {ys : List β} (h : own F w [v, u] (xs, ys)) : ∃ F1 F2, F = F1 ++ F2 ∧ own F1 w [v] xs ∧ own F2 w [u] ys := by
  obtain ⟨v1, v2, F1, F2, hv, rfl, h1, h2⟩ := h
  have l1 := Rep.len (Own.rd_of h1)
  have l2 := Rep.len (Own.rd_of h2)
  match v1, v2, l1, l2, hv with
  | [a], [b], _, _, hv =>
    simp at hv
    obtain ⟨rfl, rfl⟩ := hv
    exact ⟨F1, F2, rfl, h1, h2⟩
theorem own_pair_mk {F1 F2 : List Nat} {v u : Value} {xs : List α} {ys : List β} (h1 : own F1 w [v] xs) (h2 : own F2 w [u] ys) : own (F1 ++ F2) w [v, u] (xs, ys) := ⟨[v], [u], F1, F2, rfl, rfl, h1, h2⟩
theorem Fresh.fst {B m : Nat} {v u : Value} {xs : List α} {ys : List β} (h : Fresh B m w [v, u] (xs, ys)) : Fresh B m w [v] xs := by
  obtain ⟨F, ho, hn, hb⟩ := h
  obtain ⟨F1, F2, rfl, h1, h2⟩ := own_pair ho
  exact ⟨F1, h1, (List.nodup_append.1 hn).1, fun b hm => hb b (List.mem_append.2 (.inl hm))⟩
theorem Fresh.swap {B m : Nat} {v u : Value} {xs : List α} {ys : List β} (h : Fresh B m w [v, u] (xs, ys)) : Fresh B m w [u, v] (ys, xs) := by
  obtain ⟨F, ho, hn, hb⟩ := h
  obtain ⟨F1, F2, rfl, h1, h2⟩ := own_pair ho
  obtain ⟨n1, n2, n3⟩ := List.nodup_append.1 hn
  exact ⟨F2 ++ F1, own_pair_mk h2 h1, List.nodup_append.2 ⟨n2, n1, fun a ha b hb e => n3 b hb a ha e.symm⟩, fun b hm => hb b (by rcases List.mem_append.1 hm with h | h <;> simp [h])⟩
theorem Fresh.snd {B m : Nat} {v u : Value} {xs : List α} {ys : List β} (h : Fresh B m w [v, u] (xs, ys)) : Fresh B m w [u] ys := h.swap.fst
theorem Fresh.pair_nil (B m : Nat) (w : World) (h1 : 0 < Rep.sz α) (h2 : 0 < Rep.sz β) : Fresh B m w [.slice none 0 0, .slice none 0 0] (([] : List α), ([] : List β)) := by
  have a := Fresh.nil (β := α) B m w h1
  refine ⟨[] ++ [], own_pair_mk ⟨_, [], [], rfl, World.ownsRow_nil _ _ _ _, rfl, trivial, h1⟩ ⟨_, [], [], rfl, World.ownsRow_nil _ _ _ _, rfl, trivial, h2⟩, List.nodup_nil, fun b hb => by cases hb⟩
end

section
variable {P : Program} {w : World} {α β : Type} [Own α] [Tid α] [Own β] [Tid β]
/-- append of one element to the first, the second as it was -/
theorem run_app_fst {t ty : TypeId} {bytes : Nat} (T : SlT P t α bytes) {B m0 : Nat} {v u : Value} {xs : List α} {ys : List β} (h : Fresh B m0 w [v, u] (xs, ys)) (hB : B ≤ w.heap.size)
    {g c : Nat} {cs : List Value} {e : TypeId} {m1 : Nat} {y : α} (hg : w.heap[g]? = some (.cells cs.toArray e (0, 0))) (hy : Fresh m0 m1 w cs y) (hBm : B ≤ m0) (hbytes : (xs.length + 1) * bytes ≤ 140737488355328) (h63 : xs.length + 1 ≤ maxLen) :
    ∃ a' c' w', (Builtin.append_ #[t, t] ty #[v, .slice (some ⟨g, 0, none⟩) 1 c]).run P w = .ok (.slice a' (xs.length + 1) c') w' ∧
      Fresh B w'.heap.size w' [.slice a' (xs.length + 1) c', u] (xs ++ [y], ys) ∧ Below B w w' ∧ ∀ b, b < w.heap.size → (b < B ∨ m0 ≤ b) → w'.heap[b]? = w.heap[b]? := by
  obtain ⟨F, ho, hn, hb⟩ := h
  obtain ⟨F1, F2, rfl, h1, h2⟩ := own_pair ho
  obtain ⟨n1, n2, n3⟩ := List.nodup_append.1 hn
  obtain ⟨G, hoy, hny, hby⟩ := hy
  have hb1 : ∀ b, b ∈ F1 → B ≤ b ∧ b < m0 := fun b hm => hb b (List.mem_append.2 (.inl hm))
  have hb2 : ∀ b, b ∈ F2 → B ≤ b ∧ b < m0 := fun b hm => hb b (List.mem_append.2 (.inr hm))
  have hcells : CellsAt w (some ⟨g, 0, none⟩) ([cs] : List (List Value)).flatten := by
    refine .inr ⟨_, rfl, fun j u hu => ?_⟩
    rw [addr_add, Nat.zero_add, cell_of_row w g j _ e (0, 0) hg]
    simpa using hu
  obtain ⟨v', w', F', hr, ho', hn', hgr, hF'⟩ := run_app (P := P) (ty := ty) T h1 (a := some ⟨g, 0, none⟩) (c := c) (m := 1) (ys := [y]) rfl hcells (Gs := [G]) ⟨hoy, trivial⟩
    (by
      simp only [List.flatten_cons, List.flatten_nil, List.append_nil]
      refine List.nodup_append.2 ⟨n1, hny, fun a ha b hbb e => ?_⟩
      have h1 := hb1 a ha
      have h2 := hby b hbb
      omega) hbytes h63
  have hown := own_ownBlock h1
  obtain ⟨a', c', rfl, _⟩ := rd_slice_elim (Own.rd_of ho')
  rw [List.length_append] at hr ho'
  have hlt2 := Own.lt h2
  have h2' : own F2 w' [u] ys := Own.oframe (fun b hm => hgr.block b (hlt2 b hm) fun e => n3 b (hown b e.symm) b hm rfl) h2
  have hF2 : ∀ b, b ∈ F' → b ∈ F1 ∨ m0 ≤ b ∨ w.heap.size ≤ b := fun b hm => by
    rcases hF' b hm with h | h | h
    · exact .inl h
    · simp at h
      exact .inr (.inl (hby b h).1)
    · exact .inr (.inr h)
  refine ⟨a', c', w', hr, ⟨F' ++ F2, own_pair_mk ho' h2', List.nodup_append.2 ⟨hn', n2, fun a ha b hbb e => ?_⟩, fun b hm => ?_⟩, ?_, ?_⟩
  · subst e
    rcases hF2 a ha with h | h | h
    · exact n3 a h a hbb rfl
    · have := (hb2 a hbb).2; omega
    · have := hlt2 a hbb; omega
  · rcases List.mem_append.1 hm with hm | hm
    · refine ⟨?_, Own.lt ho' b hm⟩
      rcases hF2 b hm with h | h | h
      · exact (hb1 b h).1
      · omega
      · omega
    · exact ⟨(hb2 b hm).1, Own.lt h2' b hm⟩
  · exact (Below.refl B w).grown hgr hB fun k hk => (hb1 k (hown k hk)).1
  · intro b hbl hbb
    refine hgr.block b hbl fun e => ?_
    have := hb1 b (hown b e.symm)
    omega

/-- what an append at one of a pair gives -/
structure PGrew {α β : Type} [Own α] [Tid α] [Own β] [Tid β] (B m : Nat) (w w' : World) (v' u' : Value) (xs : List α) (ys : List β) : Prop where
  fresh : Fresh B w'.heap.size w' [v', u'] (xs, ys)
  below : Below B w w'
  rest : ∀ b, b < w.heap.size → (b < B ∨ m ≤ b) → w'.heap[b]? = w.heap[b]?
section
variable {ops : Array Oper} {rest : List Oper} {o : Oper} {a : Act} {Q : Exit → Act → World → Prop}
theorem wpList_app_fst {t : TypeId} {bytes : Nat} (T : SlT P t α bytes) (hgd : o.guard = none) (s x : Operand) (ho : o.op = .call { callee := .builtin .append, args := #[s, x], argTypes := #[t, t] })
    {B m0 : Nat} {v u : Value} {xs : List α} {ys : List β} (hs : a.eval s = v) (h : Fresh B m0 w [v, u] (xs, ys)) (hB : B ≤ w.heap.size)
    {g c : Nat} {cs : List Value} {e : TypeId} {m1 : Nat} {y : α} (hx : a.eval x = .slice (some ⟨g, 0, none⟩) 1 c) (hg : w.heap[g]? = some (.cells cs.toArray e (0, 0))) (hy : Fresh m0 m1 w cs y) (hBm : B ≤ m0)
    (hbytes : (xs.length + 1) * bytes ≤ 140737488355328) (h63 : xs.length + 1 ≤ maxLen)
    (k : ∀ a' c' w', PGrew B m0 w w' (.slice a' (xs.length + 1) c') u (xs ++ [y]) ys → wpList P ops Q rest (a.put o.dst (.slice a' (xs.length + 1) c')) w') : wpList P ops Q (o :: rest) a w := by
  refine wpList_plain hgd fun K hK => ?_
  obtain ⟨a', c', w', hr, h1, h2, h3⟩ := run_app_fst (P := P) (ty := o.type) T h hB (c := c) hg hy hBm hbytes h63
  unfold Oper.wp execOp
  simp only [ho, resolve, invoke, builtin, Sem.run_bind, Sem.run_pure, Result.andThen_ok, List.map_toArray, List.map_cons, List.map_nil, hs, hx, hr]
  exact hK _ _ (k a' c' w' ⟨h1, h2, h3⟩)
theorem wpList_app_snd {t : TypeId} {bytes : Nat} (T : SlT P t β bytes) (hgd : o.guard = none) (s x : Operand) (ho : o.op = .call { callee := .builtin .append, args := #[s, x], argTypes := #[t, t] })
    {B m0 : Nat} {v u : Value} {xs : List α} {ys : List β} (hs : a.eval s = u) (h : Fresh B m0 w [v, u] (xs, ys)) (hB : B ≤ w.heap.size)
    {g c : Nat} {cs : List Value} {e : TypeId} {m1 : Nat} {y : β} (hx : a.eval x = .slice (some ⟨g, 0, none⟩) 1 c) (hg : w.heap[g]? = some (.cells cs.toArray e (0, 0))) (hy : Fresh m0 m1 w cs y) (hBm : B ≤ m0)
    (hbytes : (ys.length + 1) * bytes ≤ 140737488355328) (h63 : ys.length + 1 ≤ maxLen)
    (k : ∀ a' c' w', PGrew B m0 w w' v (.slice a' (ys.length + 1) c') xs (ys ++ [y]) → wpList P ops Q rest (a.put o.dst (.slice a' (ys.length + 1) c')) w') : wpList P ops Q (o :: rest) a w :=
  wpList_app_fst T hgd s x ho hs h.swap hB hx hg hy hBm hbytes h63 fun a' c' w' hG => k a' c' w' ⟨hG.fresh.swap, hG.below, hG.rest⟩
end
end
end Go.Vc
