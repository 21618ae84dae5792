/-
  Append, make and a store at what the call has made: the laws as the walk takes them. No program is in sight here.
-/
import Derived.Test.YtlokkbllplhlbaaOwn
namespace Go.Vc
open Go.RowKit
open Rep (rd)
open Own (own)

/-- a type whose values hold no slice -/
class Leaf (α : Type) [Own α] : Prop where
  of_rd : ∀ {S : Nat → Prop} {w : World} {vs : List Value} {x : α}, rd S w vs x → own [] w vs x
  none : ∀ {F : List Nat} {w : World} {vs : List Value} {x : α}, own F w vs x → F = []
instance : Leaf Int := ⟨fun h => ⟨rfl, h⟩, fun h => h.1⟩
instance : Leaf Bool := ⟨fun h => ⟨rfl, h⟩, fun h => h.1⟩
instance : Leaf ByteArray := ⟨fun h => ⟨rfl, h⟩, fun h => h.1⟩
instance : Leaf UInt8 := ⟨fun h => ⟨rfl, h⟩, fun h => h.1⟩

theorem addr_add (g o n : Nat) : (⟨g, o, none⟩ : Addr).add n = ⟨g, o + n, none⟩ := by unfold Addr.add; split <;> simp_all

section
variable {α : Type} [Own α] {S : Nat → Prop} {w : World}
theorem ownAll_leaf : ∀ (cs : List (List Value)) (xs : List α), cs.length = xs.length → (∀ i (h : i < xs.length) c, cs[i]? = some c → own [] w c xs[i]) → ownAll w (List.replicate xs.length []) cs xs
  | [], [], _, _ => trivial
  | c :: cs, x :: xs, hl, h => ⟨h 0 (by simp) c rfl, ownAll_leaf cs xs (by simpa using hl) fun i hi d hd => h (i + 1) (by simpa using hi) d (by simpa using hd)⟩
  | [], _ :: _, hl, _ => by simp at hl
  | _ :: _, [], hl, _ => by simp at hl
theorem flatten_replicate_nil (n : Nat) : (List.replicate n ([] : List Nat)).flatten = [] := by induction n <;> simp_all [List.replicate_succ]
/-- the elements of a slice of leaves, as an append's source -/
theorem IsSlice.src [Leaf α] {a : Option Addr} {cap : Nat} {ys : List α} (h : IsSlice S w a cap ys) :
    ∃ ns : List (List Value), CellsAt w a ns.flatten ∧ ownAll w (List.replicate ys.length []) ns ys := by
  by_cases h0 : ys = []
  · subst h0
    exact ⟨[], .inl rfl, trivial⟩
  · have hpos : 0 < ys.length := List.length_pos_iff.2 h0
    obtain ⟨g, off, _, rfl, _⟩ := h.elem hpos
    have hc : ∀ i : Fin ys.length, ∃ us, (∀ j u, us[j]? = some u → w.cell? ⟨g, off + i.1 * Rep.sz α + j, none⟩ = some u) ∧ Rep.rd S w us ys[i.1] := by
      intro i
      obtain ⟨g', off', us, he, _, hcell, hr⟩ := h.elem i.2
      simp at he
      obtain ⟨rfl, rfl⟩ := he
      exact ⟨us, hcell, hr⟩
    let f : Fin ys.length → List Value := fun i => Classical.choose (hc i)
    have hf : ∀ i, _ := fun i => Classical.choose_spec (hc i)
    let ns : List (List Value) := List.ofFn f
    have hlen : ∀ c ∈ ns, c.length = Rep.sz α := by
      intro c hcm
      obtain ⟨i, hi⟩ := List.mem_ofFn.1 hcm
      rw [← hi]
      exact Rep.len (hf i).2
    refine ⟨ns, .inr ⟨⟨g, off, none⟩, rfl, fun j u hu => ?_⟩, ownAll_leaf ns ys (by simp [ns]) fun i hi c hcm => ?_⟩
    · have hz : 0 < Rep.sz α := by
        obtain ⟨_, _, _, _, _, _, _, hz⟩ := h.2.2 0 hpos
        exact hz
      have hj : j < ns.flatten.length := (List.getElem?_eq_some_iff.1 hu).1
      rw [flatten_len hlen] at hj
      have hn : ns.length = ys.length := by simp [ns]
      rw [hn] at hj
      have hi : j / Rep.sz α < ys.length := (Nat.div_lt_iff_lt_mul hz).2 hj
      have hm : j % Rep.sz α < Rep.sz α := Nat.mod_lt _ hz
      have hdm : j / Rep.sz α * Rep.sz α + j % Rep.sz α = j := by rw [Nat.mul_comm]; exact Nat.div_add_mod j _
      have hci : ns[j / Rep.sz α]? = some (f ⟨j / Rep.sz α, hi⟩) := by simp [ns, hi]
      rw [← hdm, flatten_at hlen hci hm] at hu
      have := (hf ⟨j / Rep.sz α, hi⟩).1 _ u hu
      rw [addr_add, ← hdm, ← Nat.add_assoc]
      exact this
    · have : c = f ⟨i, hi⟩ := by simp [ns, hi] at hcm; exact hcm.symm
      rw [this]
      exact Leaf.of_rd (hf ⟨i, hi⟩).2

theorem Fresh.shape {β : Type} [Own β] [Tid β] {B m : Nat} {v : Value} {xs : List β} (h : Fresh B m w [v] xs) : ∃ a cap, v = .slice a xs.length cap ∧ IsSlice (fun b => B ≤ b) w a cap xs := rd_slice_elim h.rd
theorem Fresh.ownBlock {β : Type} [Own β] [Tid β] {B m : Nat} {v : Value} {xs : List β} (h : Fresh B m w [v] xs) : ∀ g, v.ownBlock = some g → B ≤ g ∧ g < m := by
  obtain ⟨F, ho, _, hb⟩ := h
  exact fun g hg => hb g (own_ownBlock ho g hg)
theorem Fresh.nil {β : Type} [Own β] [Tid β] (B m : Nat) (w : World) (hz : 0 < Rep.sz β) : Fresh B m w [.slice none 0 0] ([] : List β) :=
  ⟨[], ⟨_, [], [], rfl, World.ownsRow_nil _ _ _ _, rfl, trivial, hz⟩, List.nodup_nil, fun b hb => by cases hb⟩
end

/-- what an append at an own slice gives -/
structure Grew {α : Type} [Own α] [Tid α] (B m : Nat) (w w' : World) (v' : Value) (xs : List α) : Prop where
  fresh : Fresh B w'.heap.size w' [v'] xs
  below : Below B w w'
  rest : ∀ b, b < w.heap.size → (b < B ∨ m ≤ b) → w'.heap[b]? = w.heap[b]?

section
variable {P : Program} {w : World} {α : Type} [Own α] [Tid α]
theorem run_app_leaf [Leaf α] {t ty : TypeId} {bytes : Nat} (T : SlT P t α bytes) {B m0 : Nat} {v : Value} {xs : List α} (h : Fresh B m0 w [v] xs) (hB : B ≤ w.heap.size)
    {S : Nat → Prop} {a : Option Addr} {c : Nat} {ys : List α} (hy : IsSlice S w a c ys) (hbytes : (xs.length + ys.length) * bytes ≤ 140737488355328) (h63 : xs.length + ys.length ≤ maxLen) :
    ∃ a' c' w', (Builtin.append_ #[t, t] ty #[v, .slice a ys.length c]).run P w = .ok (.slice a' (xs.length + ys.length) c') w' ∧ Grew B m0 w w' (.slice a' (xs.length + ys.length) c') (xs ++ ys) := by
  obtain ⟨F, ho, hn, hb⟩ := h
  obtain ⟨ns, hc, hall⟩ := hy.src
  obtain ⟨v', w', F', hr, ho', hn', hg, hF'⟩ := run_app (P := P) (ty := ty) T ho (a := a) (c := c) rfl hc hall (by rw [flatten_replicate_nil, List.append_nil]; exact hn) hbytes h63
  have hown := own_ownBlock ho
  obtain ⟨a', c', rfl, _⟩ := rd_slice_elim (Own.rd_of ho')
  rw [List.length_append] at hr ho'
  refine ⟨a', c', w', hr, ⟨⟨F', ho', hn', fun b hbm => ⟨?_, Own.lt ho' b hbm⟩⟩, ?_, ?_⟩⟩
  · rcases hF' b hbm with h | h | h
    · exact (hb b h).1
    · rw [flatten_replicate_nil] at h; cases h
    · omega
  · exact (Below.refl B w).grown hg hB fun k hk => (hb k (hown k hk)).1
  · intro b hbl hbb
    refine hg.block b hbl fun e => ?_
    have := hb b (hown b e.symm)
    omega

/-- append of one element that the call has made, its cells in a new row of one -/
theorem run_app_one {t ty : TypeId} {bytes : Nat} (T : SlT P t α bytes) {B m0 : Nat} {v : Value} {xs : List α} (h : Fresh B m0 w [v] xs) (hB : B ≤ w.heap.size)
    {g c : Nat} {cs : List Value} {e : TypeId} {m1 : Nat} {y : α} (hg : w.heap[g]? = some (.cells cs.toArray e (0, 0))) (hy : Fresh m0 m1 w cs y) (hBm : B ≤ m0) (hbytes : (xs.length + 1) * bytes ≤ 140737488355328) (h63 : xs.length + 1 ≤ maxLen) :
    ∃ a' c' w', (Builtin.append_ #[t, t] ty #[v, .slice (some ⟨g, 0, none⟩) 1 c]).run P w = .ok (.slice a' (xs.length + 1) c') w' ∧ Grew B m0 w w' (.slice a' (xs.length + 1) c') (xs ++ [y]) := by
  obtain ⟨F, ho, hn, hb⟩ := h
  obtain ⟨G, hoy, hny, hby⟩ := hy
  have hcells : CellsAt w (some ⟨g, 0, none⟩) ([cs] : List (List Value)).flatten := by
    refine .inr ⟨_, rfl, fun j u hu => ?_⟩
    rw [addr_add, Nat.zero_add, cell_of_row w g j _ e (0, 0) hg]
    simpa using hu
  obtain ⟨v', w', F', hr, ho', hn', hgr, hF'⟩ := run_app (P := P) (ty := ty) T ho (a := some ⟨g, 0, none⟩) (c := c) (m := 1) (ys := [y]) rfl hcells (Gs := [G]) ⟨hoy, trivial⟩
    (by
      simp only [List.flatten_cons, List.flatten_nil, List.append_nil]
      refine List.nodup_append.2 ⟨hn, hny, fun a ha b hbb e => ?_⟩
      have h1 := hb a ha
      have h2 := hby b hbb
      omega) hbytes h63
  have hown := own_ownBlock ho
  obtain ⟨a', c', rfl, _⟩ := rd_slice_elim (Own.rd_of ho')
  rw [List.length_append] at hr ho'
  refine ⟨a', c', w', hr, ⟨⟨F', ho', hn', fun b hbm => ⟨?_, Own.lt ho' b hbm⟩⟩, ?_, ?_⟩⟩
  · rcases hF' b hbm with h | h | h
    · exact (hb b h).1
    · simp at h
      exact Nat.le_trans hBm (hby b h).1
    · omega
  · exact (Below.refl B w).grown hgr hB fun k hk => (hb k (hown k hk)).1
  · intro b hbl hbb
    refine hgr.block b hbl fun e => ?_
    have := hb b (hown b e.symm)
    omega

section
variable {ops : Array Oper} {rest : List Oper} {o : Oper} {a : Act} {Q : Exit → Act → World → Prop}
/-- the walk's arm at 'append(out, ys...)', ys a slice of leaves -/
theorem wpList_app_leaf [Leaf α] {t : TypeId} {bytes : Nat} (T : SlT P t α bytes) (hgd : o.guard = none) (s x : Operand) (ho : o.op = .call { callee := .builtin .append, args := #[s, x], argTypes := #[t, t] })
    {B m0 : Nat} {v : Value} {xs : List α} (hs : a.eval s = v) (h : Fresh B m0 w [v] xs) (hB : B ≤ w.heap.size)
    {S : Nat → Prop} {ad : Option Addr} {n c : Nat} {ys : List α} (hx : a.eval x = .slice ad n c) (hn : n = ys.length) (hy : IsSlice S w ad c ys) (hbytes : (xs.length + ys.length) * bytes ≤ 140737488355328) (h63 : xs.length + ys.length ≤ maxLen)
    (k : ∀ a' c' w', Grew B m0 w w' (.slice a' (xs.length + ys.length) c') (xs ++ ys) → wpList P ops Q rest (a.put o.dst (.slice a' (xs.length + ys.length) c')) w') : wpList P ops Q (o :: rest) a w := by
  refine wpList_plain hgd fun K hK => ?_
  subst hn
  obtain ⟨a', c', w', hr, hg⟩ := run_app_leaf (P := P) (ty := o.type) T h hB hy hbytes h63
  unfold Oper.wp execOp
  simp only [ho, resolve, invoke, builtin, Sem.run_bind, Sem.run_pure, Result.andThen_ok, List.map_toArray, List.map_cons, List.map_nil, hs, hx, hr]
  exact hK _ _ (k a' c' w' hg)
/-- the walk's arm at 'append(out, y)' -/
theorem wpList_app_one {t : TypeId} {bytes : Nat} (T : SlT P t α bytes) (hgd : o.guard = none) (s x : Operand) (ho : o.op = .call { callee := .builtin .append, args := #[s, x], argTypes := #[t, t] })
    {B m0 : Nat} {v : Value} {xs : List α} (hs : a.eval s = v) (h : Fresh B m0 w [v] xs) (hB : B ≤ w.heap.size)
    {g c : Nat} {cs : List Value} {e : TypeId} {m1 : Nat} {y : α} (hx : a.eval x = .slice (some ⟨g, 0, none⟩) 1 c) (hg : w.heap[g]? = some (.cells cs.toArray e (0, 0))) (hy : Fresh m0 m1 w cs y) (hBm : B ≤ m0)
    (hbytes : (xs.length + 1) * bytes ≤ 140737488355328) (h63 : xs.length + 1 ≤ maxLen)
    (k : ∀ a' c' w', Grew B m0 w w' (.slice a' (xs.length + 1) c') (xs ++ [y]) → wpList P ops Q rest (a.put o.dst (.slice a' (xs.length + 1) c')) w') : wpList P ops Q (o :: rest) a w := by
  refine wpList_plain hgd fun K hK => ?_
  obtain ⟨a', c', w', hr, hgr⟩ := run_app_one (P := P) (ty := o.type) T h hB (c := c) hg hy hBm hbytes h63
  unfold Oper.wp execOp
  simp only [ho, resolve, invoke, builtin, Sem.run_bind, Sem.run_pure, Result.andThen_ok, List.map_toArray, List.map_cons, List.map_nil, hs, hx, hr]
  exact hK _ _ (k a' c' w' hgr)
end
end

/-- cells from o on set -/
def setAll (cur : Array Value) : Nat → List Value → Array Value
  | _, [] => cur
  | o, u :: us => setAll (cur.setIfInBounds o u) (o + 1) us
theorem setAll_size : ∀ (us : List Value) (cur : Array Value) (o : Nat), (setAll cur o us).size = cur.size
  | [], _, _ => rfl
  | u :: us, cur, o => by rw [setAll, setAll_size us]; simp
theorem setAll_toList : ∀ (us : List Value) (cur : Array Value) (o : Nat), o + us.length ≤ cur.size → (setAll cur o us).toList = cur.toList.take o ++ us ++ cur.toList.drop (o + us.length)
  | [], cur, o, _ => by simp [setAll]
  | u :: us, cur, o, h => by
    rw [List.length_cons] at h
    rw [setAll, setAll_toList us _ _ (by simp; omega)]
    have ho : o < cur.toList.length := by simp; omega
    rw [Array.toList_setIfInBounds, List.take_add_one, List.take_set_of_le (by omega), List.getElem?_set_self ho, List.drop_set_of_lt (by omega)]
    simp [Nat.add_assoc, Nat.add_comm 1]

section
variable {α : Type} [Own α] [Tid α] {w w' : World}
theorem own_head {F : List Nat} {g n cap : Nat} {xs : List α} (h : own F w [.slice (some ⟨g, 0, none⟩) n cap] xs) :
    ∃ cur cs Fs, w.heap[g]? = some (.cells cur (Tid.tid α) (0, 0)) ∧ F = g :: Fs ∧ cur.size = cap * Rep.sz α ∧ cs.length = xs.length ∧ n = xs.length ∧ xs.length ≤ cap ∧ (cs : List (List Value)).flatten = cur.toList.take (xs.length * Rep.sz α) ∧ ∀ c ∈ cs, c.length = Rep.sz α := by
  obtain ⟨v, cs, Fs, hv, hrow, rfl, hall, hz⟩ := h
  simp at hv
  subst hv
  obtain ⟨h1, h2, h3⟩ := hall.lens
  rcases hrow.2 with ⟨hh, _⟩ | ⟨g', cap', cur, hh, _, hg, hnc, hcm, hcs, htake⟩
  · simp at hh
  · simp only [Value.slice.injEq, Option.some.injEq, Addr.mk.injEq, and_true] at hh
    obtain ⟨rfl, rfl, rfl⟩ := hh
    exact ⟨cur, cs, Fs.flatten, hg, by simp [Value.ownBlock], hcs, h2, rfl, hnc, htake.symm, h3⟩

/-- an own slice's cells may be written -/
theorem Fresh.there {B m : Nat} {g n cap : Nat} {xs : List α} (h : Fresh B m w [.slice (some ⟨g, 0, none⟩) n cap] xs) {i : Nat} (hi : i < xs.length) {j : Nat} (hj : j < Rep.sz α) :
    (∃ u, w.cell? ⟨g, i * Rep.sz α + j, none⟩ = some u) ∧ w.frozen? ⟨g, i * Rep.sz α + j, none⟩ = false ∧ B ≤ g ∧ g < m := by
  obtain ⟨F, ho, hn, hb⟩ := h
  obtain ⟨cur, cs, Fs, hg, rfl, hsz, hl, rfl, hnc, hfl, hcl⟩ := own_head ho
  have hlt : i * Rep.sz α + j < cur.size := by
    rw [hsz]
    calc i * Rep.sz α + j < i * Rep.sz α + Rep.sz α := by omega
      _ = (i + 1) * Rep.sz α := by rw [Nat.add_mul]; omega
      _ ≤ cap * Rep.sz α := Nat.mul_le_mul_right _ (by omega)
  refine ⟨⟨cur[i * Rep.sz α + j], ?_⟩, frozen_of_row w g _ cur _ hg, hb g (by simp)⟩
  rw [cell_of_row w g _ cur _ (0, 0) hg]
  simp [hlt]

/-- element i is written: its new cells are d; w' is w but for block g. -/
theorem Fresh.set {B m m' : Nat} {g n cap : Nat} {xs : List α} (h : Fresh B m w [.slice (some ⟨g, 0, none⟩) n cap] xs) {i : Nat} (hi : i < xs.length) {d : List Value} {y : α}
    (hset : ∀ cur e, w.heap[g]? = some (.cells cur e (0, 0)) → w'.heap[g]? = some (.cells (setAll cur (i * Rep.sz α) d) e (0, 0)))
    (hrest : ∀ b, b ≠ g → b < w.heap.size → w'.heap[b]? = w.heap[b]?) (hy : Fresh m m' w d y) (hBm : B ≤ m) : Fresh B w'.heap.size w' [.slice (some ⟨g, 0, none⟩) n cap] (xs.set i y) := by
  obtain ⟨F, ho, hn, hb⟩ := h
  obtain ⟨G, hoy, hny, hby⟩ := hy
  obtain ⟨v, cs, Fs, hv, hrow, rfl, hall, hz⟩ := ho
  simp at hv
  subst hv
  obtain ⟨h1, h2, h3⟩ := hall.lens
  have hd : d.length = Rep.sz α := Rep.len (Own.rd_of hoy)
  rcases hrow.2 with ⟨hh, _⟩ | ⟨g', cap', cur, hh, _, hg, hnc, hcm, hcs, htake⟩
  · simp at hh
  · simp only [Value.slice.injEq, Option.some.injEq, Addr.mk.injEq, and_true] at hh
    obtain ⟨rfl, rfl, rfl⟩ := hh
    have hgF : g ∉ Fs.flatten := by
      simp only [Value.ownBlock, Option.toList_some, List.cons_append, List.nil_append] at hn
      exact (List.nodup_cons.1 hn).1
    have hgm : B ≤ g ∧ g < m := hb g (by simp [Value.ownBlock])
    have hgG : g ∉ G := fun hm => by have := hby g hm; omega
    have hle : (i + 1) * Rep.sz α ≤ xs.length * Rep.sz α := Nat.mul_le_mul_right _ (by omega)
    have hle2 : xs.length * Rep.sz α ≤ cap * Rep.sz α := Nat.mul_le_mul_right _ hnc
    rw [Nat.add_mul, Nat.one_mul] at hle
    have hall0 : ownAll w (Fs.set i G) (cs.set i d) (xs.set i y) := hall.set hoy i
    have hsub : ∀ b, b ∈ (Fs.set i G).flatten → b ∈ Fs.flatten ∨ b ∈ G := by
      intro b hbm
      obtain ⟨L, hL, hbL⟩ := List.mem_flatten.1 hbm
      rcases List.mem_or_eq_of_mem_set hL with hL | rfl
      · exact .inl (List.mem_flatten.2 ⟨L, hL, hbL⟩)
      · exact .inr hbL
    have hall' : ownAll w' (Fs.set i G) (cs.set i d) (xs.set i y) := by
      refine ownAll.frame (w := w) (fun b hbm => hrest b ?_ (hall0.lt b hbm)) hall0
      rintro rfl
      rcases hsub b hbm with h | h
      · exact hgF h
      · exact hgG h
    have hnd : (Fs.set i G).flatten.Nodup := by
      have hFn : Fs.flatten.Nodup := by
        simp only [Value.ownBlock, Option.toList_some, List.cons_append, List.nil_append] at hn
        exact (List.nodup_cons.1 hn).2
      have hFG : ∀ b, b ∈ Fs.flatten → b ∉ G := by
        intro b h1 h2
        have e1 := hb b (by simp [Value.ownBlock]; exact .inr (by simpa using h1))
        have e2 := hby b h2
        omega
      clear hall0 hall' hsub hb hn hall hrow
      clear h1
      induction Fs generalizing i with
      | nil => simp
      | cons F Fs ih =>
        rw [List.flatten_cons] at hFn hgF hFG
        obtain ⟨n1, n2, n3⟩ := List.nodup_append.1 hFn
        cases i with
        | zero =>
          rw [List.set_cons_zero, List.flatten_cons]
          refine List.nodup_append.2 ⟨hny, n2, fun a ha b hb e => ?_⟩
          subst e
          exact hFG a (List.mem_append.2 (.inr hb)) ha
        | succ i =>
          rw [List.set_cons_succ, List.flatten_cons]
          have ih' : (Fs.set i G).flatten.Nodup := by
            clear ih
            have : ∀ (Fs : List (List Nat)) (i : Nat), Fs.flatten.Nodup → (∀ b, b ∈ Fs.flatten → b ∉ G) → (Fs.set i G).flatten.Nodup := by
              intro Fs
              induction Fs with
              | nil => intro i _ _; simp
              | cons F Fs ih =>
                intro i hn hd
                rw [List.flatten_cons] at hn hd
                obtain ⟨m1, m2, m3⟩ := List.nodup_append.1 hn
                cases i with
                | zero =>
                  rw [List.set_cons_zero, List.flatten_cons]
                  refine List.nodup_append.2 ⟨hny, m2, fun a ha b hb e => ?_⟩
                  subst e
                  exact hd a (List.mem_append.2 (.inr hb)) ha
                | succ i =>
                  rw [List.set_cons_succ, List.flatten_cons]
                  refine List.nodup_append.2 ⟨m1, ih i m2 fun b hb => hd b (List.mem_append.2 (.inr hb)), fun a ha b hb e => ?_⟩
                  subst e
                  obtain ⟨L, hL, hbL⟩ := List.mem_flatten.1 hb
                  rcases List.mem_or_eq_of_mem_set hL with hL | rfl
                  · exact m3 a ha a (List.mem_flatten.2 ⟨L, hL, hbL⟩) rfl
                  · exact hd a (List.mem_append.2 (.inl ha)) hbL
            exact this Fs i n2 fun b hb => hFG b (List.mem_append.2 (.inr hb))
          refine List.nodup_append.2 ⟨n1, ih', fun a ha b hb e => ?_⟩
          subst e
          obtain ⟨L, hL, hbL⟩ := List.mem_flatten.1 hb
          rcases List.mem_or_eq_of_mem_set hL with hL | rfl
          · exact n3 a ha a (List.mem_flatten.2 ⟨L, hL, hbL⟩) rfl
          · exact hFG a (List.mem_append.2 (.inl ha)) hbL
    have hg' := hset cur _ hg
    refine ⟨g :: (Fs.set i G).flatten, ⟨_, cs.set i d, Fs.set i G, rfl, ⟨?_, .inr ⟨g, cap, _, ?_, Nat.zero_le _, hg', ?_, hcm, ?_, ?_⟩⟩, by simp [Value.ownBlock], hall', hz⟩, List.nodup_cons.2 ⟨fun hm => ?_, hnd⟩, fun b hbm => ?_⟩
    · rw [flatten_len (z := Rep.sz α) (hall'.lens).2.2]; simp [h2]
    · simp
    · simpa using hnc
    · rw [setAll_size]; exact hcs
    · rw [setAll_toList _ _ _ (by rw [hcs, hd]; omega), hd, flatten_set h3 i d hd (by omega), List.length_set, ← htake]
      have hl : cur.toList.length = cap * Rep.sz α := by simpa using hcs
      rw [List.take_append, List.take_append, List.take_take]
      simp only [List.length_take, List.length_append, hl, hd, List.drop_take]
      rw [List.take_take, Nat.min_eq_right (by omega), Nat.min_eq_left (by omega), Nat.min_eq_left (by omega), List.take_of_length_le (l := d) (by omega)]
    · rcases hsub g hm with h | h
      · exact hgF h
      · exact hgG h
    · have hlw : ∀ b, b ∈ (Fs.set i G).flatten → b < w'.heap.size := hall'.lt
      rcases List.mem_cons.1 hbm with rfl | hbm
      · exact ⟨hgm.1, (Array.getElem?_eq_some_iff.1 hg').1⟩
      · refine ⟨?_, hlw b hbm⟩
        rcases hsub b hbm with h | h
        · exact (hb b (by simp [Value.ownBlock]; exact .inr (by simpa using h))).1
        · exact Nat.le_trans hBm (hby b h).1
end

section
variable {α : Type} [Own α] [Tid α] {w : World}
/-- of one cell each -/
theorem Fresh.there1 (hz : Rep.sz α = 1) {B m : Nat} {g n cap : Nat} {xs : List α} (h : Fresh B m w [.slice (some ⟨g, 0, none⟩) n cap] xs) {i : Nat} (hi : i < xs.length) :
    (∃ u, w.cell? ⟨g, i, none⟩ = some u) ∧ w.frozen? ⟨g, i, none⟩ = false ∧ B ≤ g ∧ g < m := by
  have := h.there hi (j := 0) (by omega)
  rw [hz, Nat.mul_one] at this
  exact this
theorem Fresh.set1 (hz : Rep.sz α = 1) {B m : Nat} {g n cap : Nat} {xs : List α} (h : Fresh B m w [.slice (some ⟨g, 0, none⟩) n cap] xs) {i : Nat} (hi : i < xs.length) {u : Value} {y : α} {m' : Nat}
    (hy : Fresh m m' w [u] y) (hBm : B ≤ m) : Fresh B (w.setCell ⟨g, i, none⟩ u).heap.size (w.setCell ⟨g, i, none⟩ u) [.slice (some ⟨g, 0, none⟩) n cap] (xs.set i y) := by
  refine h.set hi (fun cur e hg => ?_) (fun b hb _ => Below.heap_setCell w _ u b hb) hy hBm
  rw [hz, Nat.mul_one]
  exact heap_setCell_same w g i cur e u hg
end

section
variable {α : Type} [Own α] [Tid α] {w : World}
theorem Fresh.cells2 (hz : Rep.sz α = 2) {B m : Nat} {g n cap : Nat} {xs : List α} (h : Fresh B m w [.slice (some ⟨g, 0, none⟩) n cap] xs) {i : Nat} (hi : i < xs.length) :
    ∃ u0 u1 : Value, w.cell? ⟨g, i * 2, none⟩ = some u0 ∧ w.cell? ⟨g, i * 2 + 1, none⟩ = some u1 ∧ w.frozen? ⟨g, i * 2, none⟩ = false ∧ w.frozen? ⟨g, i * 2 + 1, none⟩ = false := by
  obtain ⟨⟨u0, h0⟩, f0, _⟩ := h.there hi (j := 0) (by omega)
  obtain ⟨⟨u1, h1⟩, f1, _⟩ := h.there hi (j := 1) (by omega)
  rw [hz] at h0 f0 h1 f1
  exact ⟨u0, u1, h0, h1, f0, f1⟩
theorem Fresh.cells3 (hz : Rep.sz α = 3) {B m : Nat} {g n cap : Nat} {xs : List α} (h : Fresh B m w [.slice (some ⟨g, 0, none⟩) n cap] xs) {i : Nat} (hi : i < xs.length) :
    ∃ u0 u1 u2 : Value, w.cell? ⟨g, i * 3, none⟩ = some u0 ∧ w.cell? ⟨g, i * 3 + 1, none⟩ = some u1 ∧ w.cell? ⟨g, i * 3 + 2, none⟩ = some u2 ∧ w.frozen? ⟨g, i * 3, none⟩ = false ∧ w.frozen? ⟨g, i * 3 + 1, none⟩ = false ∧ w.frozen? ⟨g, i * 3 + 2, none⟩ = false := by
  obtain ⟨⟨u0, h0⟩, f0, _⟩ := h.there hi (j := 0) (by omega)
  obtain ⟨⟨u1, h1⟩, f1, _⟩ := h.there hi (j := 1) (by omega)
  obtain ⟨⟨u2, h2⟩, f2, _⟩ := h.there hi (j := 2) (by omega)
  rw [hz] at h0 f0 h1 f1 h2 f2
  exact ⟨u0, u1, u2, h0, h1, h2, f0, f1, f2⟩
theorem Fresh.cells5 (hz : Rep.sz α = 5) {B m : Nat} {g n cap : Nat} {xs : List α} (h : Fresh B m w [.slice (some ⟨g, 0, none⟩) n cap] xs) {i : Nat} (hi : i < xs.length) :
    ∃ u0 u1 u2 u3 u4 : Value, w.cell? ⟨g, i * 5, none⟩ = some u0 ∧ w.cell? ⟨g, i * 5 + 1, none⟩ = some u1 ∧ w.cell? ⟨g, i * 5 + 2, none⟩ = some u2 ∧ w.cell? ⟨g, i * 5 + 3, none⟩ = some u3 ∧ w.cell? ⟨g, i * 5 + 4, none⟩ = some u4 ∧ w.frozen? ⟨g, i * 5, none⟩ = false ∧ w.frozen? ⟨g, i * 5 + 1, none⟩ = false ∧ w.frozen? ⟨g, i * 5 + 2, none⟩ = false ∧ w.frozen? ⟨g, i * 5 + 3, none⟩ = false ∧ w.frozen? ⟨g, i * 5 + 4, none⟩ = false := by
  obtain ⟨⟨u0, h0⟩, f0, _⟩ := h.there hi (j := 0) (by omega)
  obtain ⟨⟨u1, h1⟩, f1, _⟩ := h.there hi (j := 1) (by omega)
  obtain ⟨⟨u2, h2⟩, f2, _⟩ := h.there hi (j := 2) (by omega)
  obtain ⟨⟨u3, h3⟩, f3, _⟩ := h.there hi (j := 3) (by omega)
  obtain ⟨⟨u4, h4⟩, f4, _⟩ := h.there hi (j := 4) (by omega)
  rw [hz] at h0 f0 h1 f1 h2 f2 h3 f3 h4 f4
  exact ⟨u0, u1, u2, u3, u4, h0, h1, h2, h3, h4, f0, f1, f2, f3, f4⟩
end

/-- cells from o on of block g set, one behind the other -/
def setCellsAt (w : World) (g : Nat) : Nat → List Value → World
  | _, [] => w
  | o, u :: us => setCellsAt (w.setCell ⟨g, o, none⟩ u) g (o + 1) us
theorem setCellsAt_heap (g : Nat) : ∀ (us : List Value) (w : World) (o : Nat) (cur : Array Value) (e : TypeId), w.heap[g]? = some (.cells cur e (0, 0)) → (setCellsAt w g o us).heap[g]? = some (.cells (setAll cur o us) e (0, 0))
  | [], _, _, _, _, h => h
  | u :: us, w, o, cur, e, h => setCellsAt_heap g us _ _ _ _ (heap_setCell_same w g o cur e u h)
theorem setCellsAt_rest (g b : Nat) (hb : b ≠ g) : ∀ (us : List Value) (w : World) (o : Nat), (setCellsAt w g o us).heap[b]? = w.heap[b]?
  | [], _, _ => rfl
  | u :: us, w, o => (setCellsAt_rest g b hb us _ _).trans (Below.heap_setCell w ⟨g, o, none⟩ u b hb)
theorem setCellsAt_size (g : Nat) : ∀ (us : List Value) (w : World) (o : Nat), (setCellsAt w g o us).heap.size = w.heap.size
  | [], _, _ => rfl
  | _ :: us, _, _ => (setCellsAt_size g us _ _).trans (by simp [World.setCell])
theorem setCellsAt_below {B : Nat} {a : World} (g : Nat) (hg : B ≤ g) : ∀ (us : List Value) (w : World) (o : Nat), Below B a w → Below B a (setCellsAt w g o us)
  | [], _, _, h => h
  | u :: us, _, _, h => setCellsAt_below g hg us _ _ (h.setCell hg u)
section
variable {α : Type} [Own α] [Tid α] {w : World}
theorem Fresh.setN {B m : Nat} {g n cap : Nat} {xs : List α} (h : Fresh B m w [.slice (some ⟨g, 0, none⟩) n cap] xs) {i : Nat} (hi : i < xs.length) {d : List Value} {y : α} {m' : Nat}
    (hy : Fresh m m' w d y) (hBm : B ≤ m) : Fresh B (setCellsAt w g (i * Rep.sz α) d).heap.size (setCellsAt w g (i * Rep.sz α) d) [.slice (some ⟨g, 0, none⟩) n cap] (xs.set i y) :=
  h.set hi (fun cur e hg => setCellsAt_heap g d w _ cur e hg) (fun b hb _ => setCellsAt_rest g b hb d w _) hy hBm
end

/-- what a variable of type α holds at first -/
class Zr (α : Type) where zr : α
instance : Zr Int := ⟨0⟩
instance : Zr Bool := ⟨false⟩
instance : Zr ByteArray := ⟨⟨#[]⟩⟩
instance {α : Type} : Zr (List α) := ⟨[]⟩

theorem madeCells_flat (z : Array Value) (n : Nat) (hz : 0 < z.size) : (madeCells z (n * z.size)).toList = (List.replicate n z.toList).flatten := by
  have hall : ∀ c ∈ List.replicate n z.toList, c.length = z.size := by
    intro c hc
    rw [(List.mem_replicate.1 hc).2]
    simp
  apply List.ext_getElem?
  intro j
  by_cases hj : j < n * z.size
  · have h1 : j / z.size < n := (Nat.div_lt_iff_lt_mul hz).2 hj
    have h2 : j % z.size < z.size := Nat.mod_lt _ hz
    have hdm : j / z.size * z.size + j % z.size = j := by rw [Nat.mul_comm]; exact Nat.div_add_mod j _
    have := flatten_at hall (i := j / z.size) (c := z.toList) (by simp [h1]) h2
    rw [hdm] at this
    rw [this]
    simp [madeCells, hj, h2]
  · rw [List.getElem?_eq_none (by simp [size_madeCells]; omega), List.getElem?_eq_none (by rw [flatten_len hall]; simp; omega)]

section
variable {P : Program} {w : World} {α : Type} [Own α] [Tid α] [Zr α]
/-- what a new row of n elements reads as -/
theorem Fresh.made {z : Value} (hz : ∀ w, own [] w z.cells.toList (Zr.zr : α)) (hp : 0 < Rep.sz α) (B n : Nat) (hn : n ≤ maxLen) (hB : B ≤ w.heap.size) :
    Fresh B (w.heap.size + 1) (w.alloc (.cells (madeCells z.cells (n * Rep.sz α)) (Tid.tid α))) [.slice (some ⟨w.heap.size, 0, none⟩) n n] (List.replicate n (Zr.zr : α)) := by
  have hzs : z.cells.size = Rep.sz α := by have := Rep.len (Own.rd_of (hz w)); simpa using this
  have hall : ownAll (w.alloc (.cells (madeCells z.cells (n * Rep.sz α)) (Tid.tid α))) (List.replicate (List.replicate n (Zr.zr : α)).length []) (List.replicate n z.cells.toList) (List.replicate n (Zr.zr : α)) :=
    ownAll_leaf _ _ (by simp) fun i hi c hc => by
      have : c = z.cells.toList := by rw [List.getElem?_replicate] at hc; split at hc <;> simp at hc; exact hc.symm
      rw [this, List.getElem_replicate]
      exact hz _
  refine ⟨[w.heap.size], ⟨_, List.replicate n z.cells.toList, _, rfl, ⟨?_, .inr ⟨w.heap.size, n, _, ?_, Nat.zero_le _, heap_alloc_new w _, ?_, hn, ?_, ?_⟩⟩, ?_, hall, hp⟩, by simp, fun b hb => ?_⟩
  · rw [flatten_len (z := Rep.sz α) hall.lens.2.2]; simp
  · simp
  · simp
  · rw [size_madeCells]
  · rw [← hzs, madeCells_flat _ _ (by omega), hzs]
    apply List.take_of_length_le
    rw [flatten_len (z := Rep.sz α) hall.lens.2.2]; simp
  · rw [flatten_replicate_nil]; simp [Value.ownBlock]
  · simp at hb; omega

/-- the type of the slices of α, with what a variable of type α holds at first -/
structure SlZ (P : Program) (t : TypeId) (α : Type) [Own α] [Tid α] [Zr α] (bytes : Nat) (z : Value) : Prop where
  ht : P.underlying t = some (.slice (Tid.tid α))
  hi : ∃ i, P.info? (Tid.tid α) = some i ∧ i.zero = some z ∧ i.size = Rep.sz α ∧ i.bytes = bytes
  hz : ∀ w, own [] w z.cells.toList (Zr.zr : α)
  pos : 0 < Rep.sz α
theorem SlZ.slt {t : TypeId} {bytes : Nat} {z : Value} (h : SlZ P t α bytes z) : SlT P t α bytes := by
  obtain ⟨i, h1, h2, h3, h4⟩ := h.hi
  exact ⟨h.ht, ⟨i, z, h1, h2, h3, h4, by have := Rep.len (Own.rd_of (h.hz default)); simpa using this⟩, h.pos⟩
/-- make([]T, n) -/
theorem SlZ.make {t : TypeId} {bytes : Nat} {z : Value} (h : SlZ P t α bytes z) (n : Nat) (hb : bytes * n ≤ 281474976710656) (hm : n ≤ maxLen) (w : World) :
    (Instr.makeSlice t (.int .i64 n) (.int .i64 n)).run P w = .ok (.slice (some ⟨w.heap.size, 0, none⟩) n n) (w.alloc (.cells (madeCells z.cells (n * Rep.sz α)) (Tid.tid α))) := by
  obtain ⟨i, h1, h2, h3, h4⟩ := h.hi
  have hb' : (i.bytes : Int) * (n : Int) ≤ 281474976710656 := by
    have e : ((bytes * n : Nat) : Int) ≤ 281474976710656 := by omega
    rw [h4]
    rwa [Int.natCast_mul] at e
  have := run_make (P := P) w t (Tid.tid α) i z h.ht h1 h2 .i64 .i64 n n (by omega) (Int.le_refl _) hb' (by simp [maxLen] at hm; omega)
  rw [h3] at this
  simpa using this
end
end Go.Vc
