/-
  Append to a field of an own slice's element, with what it leaves alone; own boxes. No program is in sight here.
-/
import Derived.Test.YthhmaclhggmneaaDoorVFS
import Derived.Test.YthhmaclhggmneaaDoorBox
import Derived.Test.YthhmaclhggmneaaDoorVB
set_option linter.unusedVariables false
namespace Go.Vc
open Go.RowKit
open Rep (rd)
open Own (own)

section
variable {P : Program} {w : World} {α β : Type} [Own α] [Tid α] [Own β] [Tid β]
/-- 'append(out[i].field, ys...)', and the store of what it gives -/
theorem run_app_lensS [Leaf β] {f : Nat} {get : α → List β} {put : α → List β → α} (L : Lens α (List β) f get put) {t ty : TypeId} {bytes : Nat} (T : SlT P t β bytes) {S0 : Nat → Prop} {g n cap : Nat} {xs : List α}
    (h : FS S0 w [.slice (some ⟨g, 0, none⟩) n cap] xs) {i : Nat} (hi : i < xs.length) {al : Option Addr} {nl cl : Nat} (hcell : w.cell? ⟨g, i * Rep.sz α + f, none⟩ = some (.slice al nl cl))
    {S : Nat → Prop} {a : Option Addr} {c : Nat} {ys : List β} (hy : IsSlice S w a c ys) (hbytes : ((get xs[i]).length + ys.length) * bytes ≤ 140737488355328) (h63 : (get xs[i]).length + ys.length ≤ maxLen) :
    ∃ a' c' w1, (Builtin.append_ #[t, t] ty #[.slice al nl cl, .slice a ys.length c]).run P w = .ok (.slice a' (nl + ys.length) c') w1 ∧ nl = (get xs[i]).length ∧
      (∃ u, w1.cell? ⟨g, i * Rep.sz α + f, none⟩ = some u) ∧ w1.frozen? ⟨g, i * Rep.sz α + f, none⟩ = false ∧ Below 0 w w1 ∧ (∀ b, b < w.heap.size → ¬ S0 b → w1.heap[b]? = w.heap[b]?) ∧ S0 g ∧
      FS (fun b => S0 b ∨ w.heap.size ≤ b) (w1.setCell ⟨g, i * Rep.sz α + f, none⟩ (.slice a' (nl + ys.length) c')) [.slice (some ⟨g, 0, none⟩) n cap] (xs.set i (put xs[i] (get xs[i] ++ ys))) := by
  obtain ⟨F, ho, hn, hb⟩ := h
  obtain ⟨ce, Fi, hoi, hsub, hnFi, hgFi, hgF, hcells, hfz, hfoc⟩ := own_focus ho hn hi
  obtain ⟨hf, hL⟩ := L
  obtain ⟨F1, Fl, F2, lv, hlv, rfl, hol, hput⟩ := hL Fi w ce xs[i] hoi
  have hlv' : lv = .slice al nl cl := by
    have := hcells f lv hlv
    rw [hcell] at this
    simp at this
    exact this.symm
  subst hlv'
  have hnl : nl = (get xs[i]).length := (rd_slice_of (Own.rd_of hol)).1
  obtain ⟨hn1, hn23, hd1⟩ := List.nodup_append.1 hnFi
  obtain ⟨hnl', hn2, hd2⟩ := List.nodup_append.1 hn23
  obtain ⟨ns, hsrc, hall⟩ := hy.src
  obtain ⟨v', w1, Fl', hr, ho', hn', hg, hF'⟩ := run_app (P := P) (ty := ty) T hol (a := a) (c := c) rfl hsrc hall (by rw [flatten_replicate_nil, List.append_nil]; exact hnl') hbytes h63
  obtain ⟨a', c', rfl, _⟩ := rd_slice_elim (Own.rd_of ho')
  rw [List.length_append, ← hnl] at hr ho'
  have hbl : ∀ b, (Value.slice al nl cl).ownBlock = some b → b ∈ Fl := own_ownBlock hol
  have hF'' : ∀ b, b ∈ Fl' → b ∈ Fl ∨ w.heap.size ≤ b := fun b hb => by
    rcases hF' b hb with h | h | h
    · exact .inl h
    · rw [flatten_replicate_nil] at h; cases h
    · exact .inr h
  have hglt : g < w.heap.size := World.block_lt_of_cell? w _ hcell
  have hgb : w1.heap[g]? = w.heap[g]? := hg.block g hglt fun e => hgFi (by simp [hbl g e.symm])
  have hltF : ∀ b, b ∈ F1 ++ (Fl ++ F2) → b < w.heap.size := Own.lt hoi
  refine ⟨a', c', w1, hr, hnl, ⟨_, by rw [World.cell?_of_block (w := w) hgb]; exact hcell⟩, by rw [World.frozen?_of_block (w := w) hgb]; exact hfz _, (Below.refl 0 w).grown hg (Nat.zero_le _) fun _ _ => Nat.zero_le _, fun b hbl2 hx => hg.block b hbl2 fun e => hx (hb b (hsub b (by simp [hbl b e.symm]))), hb g hgF, ?_⟩
  have hol' : own Fl' (w1.setCell ⟨g, i * Rep.sz α + f, none⟩ (.slice a' (nl + ys.length) c')) [.slice a' (nl + ys.length) c'] (get xs[i] ++ ys) :=
    Own.oframe (fun b hbm => Below.heap_setCell w1 _ _ b fun e => by
      simp only at e
      subst e
      rcases hF'' b hbm with h | h
      · exact hgFi (by simp [h])
      · omega) ho'
  have hkeep : ∀ b, b ∈ F1 ++ F2 → (w1.setCell ⟨g, i * Rep.sz α + f, none⟩ (.slice a' (nl + ys.length) c')).heap[b]? = w.heap[b]? := fun b hbm => by
    have hbF : b ∈ F1 ++ (Fl ++ F2) := by
      rcases List.mem_append.1 hbm with h | h
      · exact List.mem_append.2 (.inl h)
      · exact List.mem_append.2 (.inr (List.mem_append.2 (.inr h)))
    rw [Below.heap_setCell w1 _ _ b fun e => hgFi (by simp only at e; rw [← e]; exact hbF)]
    refine hg.block b (hltF b hbF) fun e => ?_
    have hbl' := hbl b e.symm
    rcases List.mem_append.1 hbm with h | h
    · exact hd1 b h b (List.mem_append.2 (.inl hbl')) rfl
    · exact hd2 b hbl' b h rfl
  have hfl' : ∀ b, b ∈ Fl' → b ∉ F1 ∧ b ∉ F2 := fun b hbm => by
    rcases hF'' b hbm with h | h
    · exact ⟨fun h1 => hd1 b h1 b (List.mem_append.2 (.inl h)) rfl, fun h1 => hd2 b h b h1 rfl⟩
    · exact ⟨fun h1 => by have := hltF b (List.mem_append.2 (.inl h1)); omega, fun h1 => by have := hltF b (List.mem_append.2 (.inr (List.mem_append.2 (.inr h1)))); omega⟩
  have hlce : ce.length = Rep.sz α := Rep.len (Own.rd_of hoi)
  obtain ⟨FF, hoF, hnF, hFF⟩ := hfoc _ (ce.set f (.slice a' (nl + ys.length) c')) (put xs[i] (get xs[i] ++ ys)) (F1 ++ (Fl' ++ F2)) (hput _ Fl' _ _ hkeep hol')
    (List.nodup_append.2 ⟨hn1, List.nodup_append.2 ⟨hn', hn2, fun a ha b hbb e => (hfl' a ha).2 (e ▸ hbb)⟩, fun a ha b hbb e => by
      subst e
      rcases List.mem_append.1 hbb with h | h
      · exact (hfl' a h).1 ha
      · exact hd1 a ha a (List.mem_append.2 (.inr h)) rfl⟩)
    (fun b hbm => by
      rcases List.mem_append.1 hbm with h | h
      · exact .inl (List.mem_append.2 (.inl h))
      · rcases List.mem_append.1 h with h | h
        · rcases hF'' b h with h | h
          · exact .inl (List.mem_append.2 (.inr (List.mem_append.2 (.inl h))))
          · exact .inr h
        · exact .inl (List.mem_append.2 (.inr (List.mem_append.2 (.inr h)))))
    (fun b hbl2 hbF hbg => by
      rw [Below.heap_setCell w1 _ _ b hbg]
      exact hg.block b hbl2 fun e => hbF (List.mem_append.2 (.inr (List.mem_append.2 (.inl (hbl b e.symm))))))
    (fun cur e hgc => by
      have hgc1 : w1.heap[g]? = some (.cells cur e (0, 0)) := hgb.trans hgc
      refine ⟨_, heap_setCell_same w1 g _ cur e _ hgc1, by simp, fun j hj => ?_, fun j hj => ?_⟩
      · by_cases hjf : j = f
        · subst hjf
          have hlt : i * Rep.sz α + j < cur.size := by
            have := hcell
            rw [cell_of_row w g _ cur e (0, 0) hgc] at this
            exact (Array.getElem?_eq_some_iff.1 this).1
          rw [Array.getElem?_setIfInBounds_self_of_lt hlt, List.getElem?_set_self (by omega)]
        · rw [Array.getElem?_setIfInBounds_ne (by omega), List.getElem?_set_ne (by omega)]
          have hjc : ce[j]? = some (ce[j]'(by omega)) := List.getElem?_eq_getElem _
          have := hcells j _ hjc
          rw [cell_of_row w g _ cur e (0, 0) hgc] at this
          rw [this, hjc]
      · rw [Array.getElem?_setIfInBounds_ne (by omega)])
  exact ⟨FF, hoF, hnF, fun b hbm => by
    rcases hFF b hbm with h | h
    · exact .inl (hb b h)
    · exact .inr h⟩
end
section
variable {P : Program} {ops : Array Oper} {o : Oper} {a : Act} {w : World} {K : Act → World → Prop} {Q : Exit → Act → World → Prop} {E : Prop} {α β : Type} [Own α] [Tid α] [Own β] [Tid β]
/-- the same as one step of a region that draws -/
theorem step_app_lensS [Leaf β] {f : Nat} {get : α → List β} {put : α → List β → α} (L : Lens α (List β) f get put) {t : TypeId} {bytes : Nat} (T : SlT P t β bytes) (hg : o.guard = none) (s x : Operand) (hop : o.op = Op.call { callee := Callee.builtin Builtin.append, args := #[s, x], argTypes := #[t, t] })
    {S0 : Nat → Prop} {g n cap : Nat} {xs : List α} (h : FS S0 w [.slice (some ⟨g, 0, none⟩) n cap] xs) {i : Nat} (hi : i < xs.length) {al : Option Addr} {nl cl : Nat} (hs : a.eval s = .slice al nl cl)
    (hcell : w.cell? ⟨g, i * Rep.sz α + f, none⟩ = some (.slice al nl cl))
    {S : Nat → Prop} {ad : Option Addr} {k c : Nat} {ys : List β} (hx : a.eval x = .slice ad k c) (hk : k = ys.length) (hy : IsSlice S w ad c ys) (hbytes : ((get xs[i]).length + ys.length) * bytes ≤ 140737488355328) (h63 : (get xs[i]).length + ys.length ≤ maxLen)
    (hK : ∀ a' c' w1, (∃ u, w1.cell? ⟨g, i * Rep.sz α + f, none⟩ = some u) → w1.frozen? ⟨g, i * Rep.sz α + f, none⟩ = false → Below 0 w w1 → (∀ b, b < w.heap.size → ¬ S0 b → w1.heap[b]? = w.heap[b]?) → S0 g →
      FS (fun b => S0 b ∨ w.heap.size ≤ b) (w1.setCell ⟨g, i * Rep.sz α + f, none⟩ (.slice a' (nl + k) c')) [.slice (some ⟨g, 0, none⟩) n cap] (xs.set i (put xs[i] (get xs[i] ++ ys))) →
      K (a.put o.dst (.slice a' (nl + k) c')) w1) :
    if Region.wanted o (yielded ops a.tmps) = true then Oper.wp P o a w K Q else E := by
  have hw : Region.wanted o (yielded ops a.tmps) = true := by simp [Region.wanted, hg]
  rw [if_pos hw]
  subst hk
  obtain ⟨a', c', w1, hr, _, h1, h2, h3, h4, h5, h6⟩ := run_app_lensS (P := P) (ty := o.type) L T h hi hcell hy hbytes h63
  unfold Oper.wp execOp
  simp only [hop, resolve, invoke, builtin, Sem.run_bind, Sem.run_pure, Result.andThen_ok, List.map_toArray, List.map_cons, List.map_nil, hs, hx, hr]
  exact hK a' c' w1 h1 h2 h3 h4 h5 h6
end
section
variable {α : Type} [Own α] {w : World} {b : Nat} {x y : α} {S T : Nat → Prop}
theorem FS.unbox (h : FS S w [.pointer (some ⟨b, 0, none⟩)] (⟨x⟩ : Box α)) : ∃ cs e, w.heap[b]? = some (.cells (List.toArray cs) e (0, 0)) ∧ FS (fun k => S k ∧ k ≠ b) w cs x ∧ S b := by
  obtain ⟨F, ⟨b', cs, e, G, hv, hh, ho, rfl⟩, hn, hb⟩ := h
  simp at hv
  subst hv
  exact ⟨cs, e, hh, ⟨G, ho, (List.nodup_cons.1 hn).2, fun k hk => ⟨hb k (by simp [hk]), fun e => (List.nodup_cons.1 hn).1 (e ▸ hk)⟩⟩, hb b (by simp)⟩
theorem FS.box {cs : List Value} {e : TypeId} (hh : w.heap[b]? = some (.cells (List.toArray cs) e (0, 0))) (h : FS T w cs x) (hT : ¬ T b) : FS (fun k => k = b ∨ T k) w [.pointer (some ⟨b, 0, none⟩)] (⟨x⟩ : Box α) := by
  obtain ⟨G, ho, hn, hb⟩ := h
  exact ⟨b :: G, ⟨b, cs, e, G, rfl, hh, ho, rfl⟩, List.nodup_cons.2 ⟨fun hm => hT (hb b hm), hn⟩, fun k hk => by
    rcases List.mem_cons.1 hk with rfl | hk
    · exact .inl rfl
    · exact .inr (hb k hk)⟩
/-- a box of one cell set -/
theorem FS.setbox1 {u u0 : Value} {te : TypeId} (hh : w.heap[b]? = some (.cells (List.toArray [u0]) te (0, 0))) (h : FS T w [u] y) (hT : ¬ T b) : FS (fun k => k = b ∨ T k) (w.setCell ⟨b, 0, none⟩ u) [.pointer (some ⟨b, 0, none⟩)] (⟨y⟩ : Box α) := by
  have h' : FS T (w.setCell ⟨b, 0, none⟩ u) [u] y := h.keep fun k hk _ => Below.heap_setCell w _ _ k (fun e => hT (by have e' : k = b := e; rw [← e']; exact hk))
  refine FS.box (e := te) ?_ h' hT
  have := heap_setCell_same w b 0 _ te u hh
  simpa using this
theorem FS.addr {α : Type} [Own α] [Tid α] {S : Nat → Prop} {w : World} {a : Option Addr} {n cap : Nat} {xs : List α} (h : FS S w [.slice a n cap] xs) (hx : 0 < xs.length) : ∃ g, a = some ⟨g, 0, none⟩ ∧ S g := by
  obtain ⟨F, ho, _, hb⟩ := h
  obtain ⟨g, hg, hm⟩ := own_addr ho hx
  exact ⟨g, hg, hb g hm⟩
theorem box_cell {w : World} {b : Nat} {u : Value} {e : TypeId} (hh : w.heap[b]? = some (.cells (List.toArray [u]) e (0, 0))) : w.cell? ⟨b, 0, none⟩ = some u ∧ w.frozen? ⟨b, 0, none⟩ = false := by
  refine ⟨?_, frozen_of_row w b 0 _ e hh⟩
  rw [cell_of_row w b 0 _ e (0, 0) hh]; simp
end
end Go.Vc
