/-
  One element of an own slice looked at, and changed in place; append inside a region that draws its order. No program is in sight here.
-/
import Derived.Test.YtlokkbllplhlbaaProd
import Derived.Deep.RegionLaw
namespace Go.Vc
open Go.RowKit
open Rep (rd)
open Own (own)

theorem nodup_flatten {α : Type} : ∀ {L : List (List α)}, L.flatten.Nodup ↔ (∀ l, l ∈ L → l.Nodup) ∧ L.Pairwise (fun a b => ∀ x, x ∈ a → x ∈ b → False)
  | [] => by simp
  | l :: L => by
    rw [List.flatten_cons, List.nodup_append, nodup_flatten (L := L), List.pairwise_cons]
    constructor
    · rintro ⟨h1, ⟨h2, h3⟩, h4⟩
      exact ⟨fun k hk => (List.mem_cons.1 hk).elim (fun e => e ▸ h1) (h2 k), fun k hk x hx hx' => h4 x hx x (List.mem_flatten.2 ⟨k, hk, hx'⟩) rfl, h3⟩
    · rintro ⟨h1, h2, h3⟩
      exact ⟨h1 l (List.mem_cons_self ..), ⟨fun k hk => h1 k (List.mem_cons_of_mem _ hk), h3⟩, fun x hx y hy e => by
        subst e
        obtain ⟨k, hk, hxk⟩ := List.mem_flatten.1 hy
        exact h2 k hk x hx hxk⟩
theorem flatten_ext {α : Type} {z n : Nat} {cs : List (List α)} {l : List α} (hz : 0 < z) (hc : ∀ c ∈ cs, c.length = z) (hn : cs.length = n) (hl : l.length = n * z)
    (h : ∀ i c, cs[i]? = some c → ∀ j, j < z → l[i * z + j]? = c[j]?) : l = cs.flatten := by
  apply List.ext_getElem?
  intro k
  by_cases hk : k < n * z
  · have h1 : k / z < n := (Nat.div_lt_iff_lt_mul hz).2 hk
    have h2 : k % z < z := Nat.mod_lt _ hz
    have hdm : k / z * z + k % z = k := by rw [Nat.mul_comm]; exact Nat.div_add_mod k _
    have hci : cs[k / z]? = some (cs[k / z]'(by omega)) := List.getElem?_eq_getElem _
    rw [← hdm, flatten_at hc hci h2]
    exact h _ _ hci _ h2
  · rw [List.getElem?_eq_none (by omega), List.getElem?_eq_none (by rw [flatten_len hc]; rw [hn]; omega)]

section
variable {α : Type} [Own α] [Tid α] {w : World}
/-- element i of an own slice, and what may become of it -/
theorem own_focus {F : List Nat} {g n cap : Nat} {xs : List α} (h : own F w [.slice (some ⟨g, 0, none⟩) n cap] xs) (hn : F.Nodup) {i : Nat} (hi : i < xs.length) :
    ∃ c Fi, own Fi w c xs[i] ∧ (∀ b, b ∈ Fi → b ∈ F) ∧ Fi.Nodup ∧ g ∉ Fi ∧ g ∈ F ∧ (∀ j u, c[j]? = some u → w.cell? ⟨g, i * Rep.sz α + j, none⟩ = some u) ∧ (∀ j, w.frozen? ⟨g, j, none⟩ = false) ∧
      ∀ (w' : World) (d : List Value) (y : α) (G : List Nat), own G w' d y → G.Nodup → (∀ b, b ∈ G → b ∈ Fi ∨ w.heap.size ≤ b) → (∀ b, b < w.heap.size → b ∉ Fi → b ≠ g → w'.heap[b]? = w.heap[b]?) →
        (∀ cur e, w.heap[g]? = some (.cells cur e (0, 0)) → ∃ cur', w'.heap[g]? = some (.cells cur' e (0, 0)) ∧ cur'.size = cur.size ∧ (∀ j, j < Rep.sz α → cur'[i * Rep.sz α + j]? = d[j]?) ∧ (∀ j, (j < i * Rep.sz α ∨ i * Rep.sz α + Rep.sz α ≤ j) → cur'[j]? = cur[j]?)) →
        ∃ F', own F' w' [.slice (some ⟨g, 0, none⟩) n cap] (xs.set i y) ∧ F'.Nodup ∧ ∀ b, b ∈ F' → b ∈ F ∨ w.heap.size ≤ b := by
  obtain ⟨v, cs, Fs, hv, hrow, rfl, hall, hz⟩ := h
  simp at hv
  subst hv
  obtain ⟨h1, h2, h3⟩ := hall.lens
  rcases hrow.2 with ⟨hh, _⟩ | ⟨g', cap', cur, hh, _, hg, hnc, hcm, hcs, htake⟩
  · simp at hh
  · simp only [Value.slice.injEq, Option.some.injEq, Addr.mk.injEq, and_true] at hh
    obtain ⟨rfl, rfl, rfl⟩ := hh
    obtain ⟨Fi, c, hFi, hc, ho⟩ := hall.at i hi
    simp only [Value.ownBlock, Option.toList_some, List.cons_append, List.nil_append] at hn ⊢
    obtain ⟨hgF, hnF⟩ := List.nodup_cons.1 hn
    have hmemFi : Fi ∈ Fs := List.mem_of_getElem? hFi
    have hsub : ∀ b, b ∈ Fi → b ∈ Fs.flatten := fun b hb => List.mem_flatten.2 ⟨Fi, hmemFi, hb⟩
    have hcm' : c ∈ cs := List.mem_of_getElem? hc
    have hglt : g < w.heap.size := (Array.getElem?_eq_some_iff.1 hg).1
    -- the others' blocks
    have hother : ∀ k Fk, Fs[k]? = some Fk → k ≠ i → ∀ b, b ∈ Fk → b ∉ Fi := by
      intro k Fk hk hki b hb hbi
      have hp := List.pairwise_iff_getElem.1 (nodup_flatten.1 hnF).2
      obtain ⟨hkl, hke⟩ := List.getElem?_eq_some_iff.1 hk
      obtain ⟨hil, hie⟩ := List.getElem?_eq_some_iff.1 hFi
      rcases Nat.lt_or_gt_of_ne hki with hlt | hlt
      · have := hp k i hkl hil hlt
        rw [hke, hie] at this
        exact this b hb hbi
      · have := hp i k hil hkl hlt
        rw [hke, hie] at this
        exact this b hbi hb
    refine ⟨c, Fi, ho, fun b hb => List.mem_cons.2 (.inr (hsub b hb)), (nodup_flatten.1 hnF).1 Fi hmemFi, fun hm => hgF (hsub g hm), List.mem_cons_self .., fun j u hu => ?_, fun j => frozen_of_row w g j cur _ hg, ?_⟩
    · have hj : j < Rep.sz α := by rw [← h3 c hcm']; exact (List.getElem?_eq_some_iff.1 hu).1
      have hfl := flatten_at h3 hc hj
      have := hrow.cells (g := g) rfl (i * Rep.sz α + j) u (by rw [hfl]; exact hu)
      rw [addr_add, Nat.zero_add] at this
      exact this
    · intro w' d y G hoG hnG hGs hrest hblock
      obtain ⟨cur', hg', hsz', hin, hout⟩ := hblock cur _ hg
      have hd : d.length = Rep.sz α := Rep.len (Own.rd_of hoG)
      have hFsl : Fs.length = xs.length := h1
      -- each element in the new world
      have hall' : ownAll w' (Fs.set i G) (cs.set i d) (xs.set i y) := by
        have key : ∀ (Fs : List (List Nat)) (cs : List (List Value)) (xs : List α) (i : Nat), ownAll w Fs cs xs → (∀ k Fk, Fs[k]? = some Fk → k ≠ i → ∀ b, b ∈ Fk → w'.heap[b]? = w.heap[b]?) → ownAll w' (Fs.set i G) (cs.set i d) (xs.set i y) := by
          intro Fs
          induction Fs with
          | nil =>
            intro cs xs i h _
            cases cs <;> cases xs <;> first | exact h.elim | (cases i <;> exact trivial)
          | cons F Fs ih =>
            intro cs xs i h hk
            cases cs with
            | nil => cases xs <;> exact h.elim
            | cons c cs =>
              cases xs with
              | nil => exact h.elim
              | cons x xs =>
                cases i with
                | zero => exact ⟨hoG, ownAll.frame (w := w) (fun b hb => by
                    obtain ⟨L, hL, hbL⟩ := List.mem_flatten.1 hb
                    obtain ⟨k, hkl, hke⟩ := List.getElem_of_mem hL
                    exact hk (k + 1) L (by simp [hkl, hke]) (by omega) b hbL) h.2⟩
                | succ i =>
                  exact ⟨Own.oframe (fun b hb => hk 0 F rfl (by omega) b hb) h.1, ih cs xs i h.2 fun k Fk hFk hki b hb => hk (k + 1) Fk (by simpa using hFk) (by omega) b hb⟩
        refine key Fs cs xs i hall fun k Fk hFk hki b hb => ?_
        have hbF : b ∈ Fs.flatten := List.mem_flatten.2 ⟨Fk, List.mem_of_getElem? hFk, hb⟩
        exact hrest b (hall.lt b hbF) (hother k Fk hFk hki b hb) (fun e => hgF (e ▸ hbF))
      have hmemset : ∀ b, b ∈ (Fs.set i G).flatten → b ∈ Fs.flatten ∨ w.heap.size ≤ b := by
        intro b hb
        obtain ⟨L, hL, hbL⟩ := List.mem_flatten.1 hb
        rcases List.mem_or_eq_of_mem_set hL with hL | rfl
        · exact .inl (List.mem_flatten.2 ⟨L, hL, hbL⟩)
        · rcases hGs b hbL with h | h
          · exact .inl (hsub b h)
          · exact .inr h
      have hgset : g ∉ (Fs.set i G).flatten := by
        intro hm
        rcases hmemset g hm with h | h
        · exact hgF h
        · omega
      have hnset : (Fs.set i G).flatten.Nodup := by
        refine nodup_flatten.2 ⟨fun L hL => ?_, List.pairwise_iff_getElem.2 fun a b ha hb hab => ?_⟩
        · rcases List.mem_or_eq_of_mem_set hL with hL | rfl
          · exact (nodup_flatten.1 hnF).1 L hL
          · exact hnG
        · rw [List.length_set] at ha hb
          have hp := List.pairwise_iff_getElem.1 (nodup_flatten.1 hnF).2 a b ha hb hab
          rw [List.getElem_set, List.getElem_set]
          intro x hx hx'
          by_cases hia : i = a
          · subst hia
            rw [if_pos rfl] at hx
            rw [if_neg (by omega)] at hx'
            rcases hGs x hx with h | h
            · exact hother b _ (List.getElem?_eq_getElem hb) (by omega) x hx' h
            · have := hall.lt x (List.mem_flatten.2 ⟨_, List.getElem_mem hb, hx'⟩); omega
          · rw [if_neg hia] at hx
            by_cases hib : i = b
            · subst hib
              rw [if_pos rfl] at hx'
              rcases hGs x hx' with h | h
              · exact hother a _ (List.getElem?_eq_getElem ha) (by omega) x hx h
              · have := hall.lt x (List.mem_flatten.2 ⟨_, List.getElem_mem ha, hx⟩); omega
            · rw [if_neg hib] at hx'
              exact hp x hx hx'
      refine ⟨g :: (Fs.set i G).flatten, ⟨_, cs.set i d, Fs.set i G, rfl, ⟨?_, .inr ⟨g, cap, cur', ?_, Nat.zero_le _, hg', ?_, hcm, ?_, ?_⟩⟩, by simp [Value.ownBlock], hall', hz⟩, List.nodup_cons.2 ⟨hgset, hnset⟩, fun b hb => ?_⟩
      · rw [flatten_len (z := Rep.sz α) hall'.lens.2.2]; simp [h2]
      · simp
      · simpa using hnc
      · rw [hsz']; exact hcs
      · have hle2 : xs.length * Rep.sz α ≤ cap * Rep.sz α := Nat.mul_le_mul_right _ hnc
        rw [List.length_set]
        refine flatten_ext hz hall'.lens.2.2 (n := xs.length) (by simp [h2]) (by simp; rw [hsz', hcs]; omega) fun k ck hck j hj => ?_
        have hkl : k < xs.length := by have := (List.getElem?_eq_some_iff.1 hck).1; simpa [h2] using this
        have hkj : k * Rep.sz α + j < xs.length * Rep.sz α := by
          calc k * Rep.sz α + j < k * Rep.sz α + Rep.sz α := by omega
            _ = (k + 1) * Rep.sz α := by rw [Nat.add_mul]; omega
            _ ≤ xs.length * Rep.sz α := Nat.mul_le_mul_right _ (by omega)
        rw [List.getElem?_take, if_pos hkj]
        by_cases hki : k = i
        · subst hki
          rw [List.getElem?_set_self (by omega)] at hck
          simp at hck
          subst hck
          simpa using hin j hj
        · rw [List.getElem?_set_ne (by omega)] at hck
          have hne : k * Rep.sz α + j < i * Rep.sz α ∨ i * Rep.sz α + Rep.sz α ≤ k * Rep.sz α + j := by
            rcases Nat.lt_or_gt_of_ne hki with hlt | hlt
            · left
              calc k * Rep.sz α + j < k * Rep.sz α + Rep.sz α := by omega
                _ = (k + 1) * Rep.sz α := by rw [Nat.add_mul]; omega
                _ ≤ i * Rep.sz α := Nat.mul_le_mul_right _ (by omega)
            · right
              calc i * Rep.sz α + Rep.sz α = (i + 1) * Rep.sz α := by rw [Nat.add_mul]; omega
                _ ≤ k * Rep.sz α := Nat.mul_le_mul_right _ (by omega)
                _ ≤ k * Rep.sz α + j := by omega
          have e1 := hout _ hne
          have e2 := flatten_at h3 hck hj
          rw [← htake, List.getElem?_take, if_pos hkj] at e2
          rw [← e2]
          simpa using e1
      · rcases List.mem_cons.1 hb with rfl | hb
        · exact .inl (List.mem_cons_self ..)
        · rcases hmemset b hb with h | h
          · exact .inl (List.mem_cons.2 (.inr h))
          · exact .inr h
end

section
variable {P : Program} {ops : Array Oper} {o : Oper} {a : Act} {w : World} {K : Act → World → Prop} {Q : Exit → Act → World → Prop} {E : Prop} {α : Type} [Own α] [Tid α]
/-- 'append(out, ys...)' as one step of a region that draws -/
theorem step_app_leaf [Leaf α] {t : TypeId} {bytes : Nat} (T : SlT P t α bytes) (hg : o.guard = none) (s x : Operand) (hop : o.op = Op.call { callee := Callee.builtin Builtin.append, args := #[s, x], argTypes := #[t, t] })
    {B m0 : Nat} {v : Value} {xs : List α} (hs : a.eval s = v) (h : Fresh B m0 w [v] xs) (hB : B ≤ w.heap.size)
    {S : Nat → Prop} {ad : Option Addr} {n c : Nat} {ys : List α} (hx : a.eval x = .slice ad n c) (hn : n = ys.length) (hy : IsSlice S w ad c ys) (hbytes : (xs.length + ys.length) * bytes ≤ 140737488355328) (h63 : xs.length + ys.length ≤ maxLen)
    (hK : ∀ a' c' w', Grew B m0 w w' (.slice a' (xs.length + ys.length) c') (xs ++ ys) → K (a.put o.dst (.slice a' (xs.length + ys.length) c')) w') :
    if Region.wanted o (yielded ops a.tmps) = true then Oper.wp P o a w K Q else E := by
  have hw : Region.wanted o (yielded ops a.tmps) = true := by simp [Region.wanted, hg]
  rw [if_pos hw]
  subst hn
  obtain ⟨a', c', w', hr, hgr⟩ := run_app_leaf (P := P) (ty := o.type) T h hB hy hbytes h63
  unfold Oper.wp execOp
  simp only [hop, resolve, invoke, builtin, Sem.run_bind, Sem.run_pure, Result.andThen_ok, List.map_toArray, List.map_cons, List.map_nil, hs, hx, hr]
  exact hK a' c' w' hgr
end

/-- where a slice's cut begins -/
def cutA (a : Option Addr) (cap k z : Nat) : Option Addr := if cap = k then a else a.map (fun x => x.add (k * z))
section
variable {P : Program} {α : Type} [Rep α] {S : Nat → Prop} {w : World}
theorem IsSlice.cut {a : Option Addr} {cap : Nat} {xs : List α} (h : IsSlice S w a cap xs) {k : Nat} (hk : k ≤ xs.length) : IsSlice S w (cutA a cap k (Rep.sz α)) (cap - k) (xs.drop k) := by
  refine ⟨by have := h.1; simp; omega, by have := h.2.1; omega, fun i hi => ?_⟩
  have hi' : k + i < xs.length := by simp at hi; omega
  obtain ⟨g, off, us, rfl, h2, h3, h4, h5⟩ := h.2.2 (k + i) hi'
  have hne : cap ≠ k := by have := h.1; omega
  refine ⟨g, off + k * Rep.sz α, us, ?_, h2, fun j u hu => ?_, by rw [List.getElem_drop]; exact h4, h5⟩
  · unfold cutA; rw [if_neg hne]; simp only [Option.map_some, addr_add]
  · have := h3 j u hu
    rw [Nat.add_mul] at this
    rw [← this]
    congr 2
    omega
theorem IsSlice.take {a : Option Addr} {cap : Nat} {xs : List α} (h : IsSlice S w a cap xs) (k : Nat) : IsSlice S w a cap (xs.take k) := by
  refine ⟨by have := h.1; simp; omega, h.2.1, fun i hi => ?_⟩
  have hi' : i < xs.length := by simp at hi; omega
  rw [List.getElem_take]
  exact h.2.2 i hi'
variable [Tid α]
/-- s[k:] -/
theorem run_cut {t : TypeId} {bytes : Nat} (T : SlT P t α bytes) (a : Option Addr) (n cap k : Nat) (h1 : k ≤ n) (w : World) :
    (Instr.slice t (.slice a n cap) (some (.int .i64 (k : Int))) none none).run P w = .ok (.slice (cutA a cap k (Rep.sz α)) (n - k) (cap - k)) w := by
  obtain ⟨i, z, hi, hz0, hsz, hby, hzs⟩ := T.hi
  simp [Instr.slice, Instr.sliceBounds, Instr.sliceBound, run_underlying T.ht, asIntOf, h1, sizeOf, typeInfo, hi, hsz, cutA]
/-- s[1:] -/
theorem run_cut1 {t : TypeId} {bytes : Nat} (T : SlT P t α bytes) (a : Option Addr) (n cap : Nat) (h1 : 1 ≤ n) (w : World) :
    (Instr.slice t (.slice a n cap) (some (.int .i64 1)) none none).run P w = .ok (.slice (cutA a cap 1 (Rep.sz α)) (n - 1) (cap - 1)) w :=
  run_cut T a n cap 1 h1 w
/-- s[k:h] -/
theorem run_cut2 {t : TypeId} {bytes : Nat} (T : SlT P t α bytes) (a : Option Addr) (n cap k h : Nat) (h1 : k ≤ h) (h2 : h ≤ cap) (w : World) :
    (Instr.slice t (.slice a n cap) (some (.int .i64 (k : Int))) (some (.int .i64 (h : Int))) none).run P w = .ok (.slice (cutA a cap k (Rep.sz α)) (h - k) (cap - k)) w := by
  obtain ⟨i, z, hi, hz0, hsz, hby, hzs⟩ := T.hi
  simp [Instr.slice, Instr.sliceBounds, Instr.sliceBound, run_underlying T.ht, asIntOf, h1, h2, sizeOf, typeInfo, hi, hsz, cutA]
/-- s[:h] -/
theorem run_cut0 {t : TypeId} {bytes : Nat} (T : SlT P t α bytes) (a : Option Addr) (n cap h : Nat) (h2 : h ≤ cap) (w : World) :
    (Instr.slice t (.slice a n cap) none (some (.int .i64 (h : Int))) none).run P w = .ok (.slice a h cap) w := by
  obtain ⟨i, z, hi, hz0, hsz, hby, hzs⟩ := T.hi
  cases a with
  | none => simp [Instr.slice, Instr.sliceBounds, Instr.sliceBound, run_underlying T.ht, asIntOf, h2, sizeOf, typeInfo, hi]
  | some ad =>
    simp [Instr.slice, Instr.sliceBounds, Instr.sliceBound, run_underlying T.ht, asIntOf, h2, sizeOf, typeInfo, hi, Addr.add]
end
/-- []T{} -/
theorem Fresh.empty {β : Type} [Own β] [Tid β] (hz : 0 < Rep.sz β) (B : Nat) (w : World) (hB : B ≤ w.heap.size) : Fresh B (w.heap.size + 1) (w.alloc (.cells #[] (Tid.tid β))) [.slice (some ⟨w.heap.size, 0, none⟩) 0 0] ([] : List β) := by
  refine ⟨[w.heap.size], ⟨_, [], [], rfl, ?_, rfl, trivial, hz⟩, by simp, fun b hb => ?_⟩
  · have := World.ownsRow_lit (base := 0) (e := Tid.tid β) (size := Rep.sz β) w #[] 0 (Nat.zero_le _) (Nat.zero_le _) (by simp)
    simpa using this
  · simp at hb; omega
end Go.Vc
