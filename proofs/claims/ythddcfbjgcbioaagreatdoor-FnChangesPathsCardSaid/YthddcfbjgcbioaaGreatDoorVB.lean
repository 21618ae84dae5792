/-
  One element of an own slice looked at, and changed in place; append inside a region that draws its order. No program is in sight here. / Append to a slice that is a field of an own slice's element. No program is in sight here. / Own data written in place: which blocks are touched. No program is in sight here. / What the printed walks of the laws' helpers lean on (typegen.py). No program is in sight here.
-/
import Derived.Test.YthddcfbjgcbioaaGreatDoorVA
import Derived.Deep.RegionLaw
set_option linter.unusedVariables false
namespace Go.Vc
open Go.RowKit
open Rep (rd)
open Own (own)

theorem nodup_flatten {α : Type} : ∀ {L : List (List α)}, L.flatten.Nodup ↔ (∀ l, l ∈ L → l.Nodup) ∧ L.Pairwise (fun a b => ∀ x, x ∈ a → x ∈ b → False)
  | [] => by simp
  | l :: L => by
    rw [List.flatten_cons, List.nodup_append, nodup_flatten (L := L), List.pairwise_cons]
    constructor
    · rintro ⟨h1, ⟨h2, h3⟩, h4⟩
      exact ⟨fun k hk => (List.mem_cons.1 hk).elim (fun e => e ▸ h1) (h2 k), fun k hk x hx hx' => h4 x hx x (List.mem_flatten.2 ⟨k, hk, hx'⟩) rfl, h3⟩
    · rintro ⟨h1, h2, h3⟩
      exact ⟨h1 l (List.mem_cons_self ..), ⟨fun k hk => h1 k (List.mem_cons_of_mem _ hk), h3⟩, fun x hx y hy e => by
        subst e
        obtain ⟨k, hk, hxk⟩ := List.mem_flatten.1 hy
        exact h2 k hk x hx hxk⟩
theorem flatten_ext {α : Type} {z n : Nat} {cs : List (List α)} {l : List α} (hz : 0 < z) (hc : ∀ c ∈ cs, c.length = z) (hn : cs.length = n) (hl : l.length = n * z)
    (h : ∀ i c, cs[i]? = some c → ∀ j, j < z → l[i * z + j]? = c[j]?) : l = cs.flatten := by
  apply List.ext_getElem?
  intro k
  by_cases hk : k < n * z
  · have h1 : k / z < n := (Nat.div_lt_iff_lt_mul hz).2 hk
    have h2 : k % z < z := Nat.mod_lt _ hz
    have hdm : k / z * z + k % z = k := by rw [Nat.mul_comm]; exact Nat.div_add_mod k _
    have hci : cs[k / z]? = some (cs[k / z]'(by omega)) := List.getElem?_eq_getElem _
    rw [← hdm, flatten_at hc hci h2]
    exact h _ _ hci _ h2
  · rw [List.getElem?_eq_none (by omega), List.getElem?_eq_none (by rw [flatten_len hc]; rw [hn]; omega)]

section
variable {α : Type} [Own α] [Tid α] {w : World}
/-- element i of an own slice, and what may become of it -/
theorem own_focus {F : List Nat} {g n cap : Nat} {xs : List α} (h : own F w [.slice (some ⟨g, 0, none⟩) n cap] xs) (hn : F.Nodup) {i : Nat} (hi : i < xs.length) :
    ∃ c Fi, own Fi w c xs[i] ∧ (∀ b, b ∈ Fi → b ∈ F) ∧ Fi.Nodup ∧ g ∉ Fi ∧ g ∈ F ∧ (∀ j u, c[j]? = some u → w.cell? ⟨g, i * Rep.sz α + j, none⟩ = some u) ∧ (∀ j, w.frozen? ⟨g, j, none⟩ = false) ∧
      ∀ (w' : World) (d : List Value) (y : α) (G : List Nat), own G w' d y → G.Nodup → (∀ b, b ∈ G → b ∈ Fi ∨ w.heap.size ≤ b) → (∀ b, b < w.heap.size → b ∉ Fi → b ≠ g → w'.heap[b]? = w.heap[b]?) →
        (∀ cur e, w.heap[g]? = some (.cells cur e (0, 0)) → ∃ cur', w'.heap[g]? = some (.cells cur' e (0, 0)) ∧ cur'.size = cur.size ∧ (∀ j, j < Rep.sz α → cur'[i * Rep.sz α + j]? = d[j]?) ∧ (∀ j, (j < i * Rep.sz α ∨ i * Rep.sz α + Rep.sz α ≤ j) → cur'[j]? = cur[j]?)) →
        ∃ F', own F' w' [.slice (some ⟨g, 0, none⟩) n cap] (xs.set i y) ∧ F'.Nodup ∧ ∀ b, b ∈ F' → b ∈ F ∨ w.heap.size ≤ b := by
  obtain ⟨v, cs, Fs, hv, hrow, rfl, hall, hz⟩ := h
  simp at hv
  subst hv
  obtain ⟨h1, h2, h3⟩ := hall.lens
  rcases hrow.2 with ⟨hh, _⟩ | ⟨g', cap', cur, hh, _, hg, hnc, hcm, hcs, htake⟩
  · simp at hh
  · simp only [Value.slice.injEq, Option.some.injEq, Addr.mk.injEq, and_true] at hh
    obtain ⟨rfl, rfl, rfl⟩ := hh
    obtain ⟨Fi, c, hFi, hc, ho⟩ := hall.at i hi
    simp only [Value.ownBlock, Option.toList_some, List.cons_append, List.nil_append] at hn ⊢
    obtain ⟨hgF, hnF⟩ := List.nodup_cons.1 hn
    have hmemFi : Fi ∈ Fs := List.mem_of_getElem? hFi
    have hsub : ∀ b, b ∈ Fi → b ∈ Fs.flatten := fun b hb => List.mem_flatten.2 ⟨Fi, hmemFi, hb⟩
    have hcm' : c ∈ cs := List.mem_of_getElem? hc
    have hglt : g < w.heap.size := (Array.getElem?_eq_some_iff.1 hg).1
    -- the others' blocks
    have hother : ∀ k Fk, Fs[k]? = some Fk → k ≠ i → ∀ b, b ∈ Fk → b ∉ Fi := by
      intro k Fk hk hki b hb hbi
      have hp := List.pairwise_iff_getElem.1 (nodup_flatten.1 hnF).2
      obtain ⟨hkl, hke⟩ := List.getElem?_eq_some_iff.1 hk
      obtain ⟨hil, hie⟩ := List.getElem?_eq_some_iff.1 hFi
      rcases Nat.lt_or_gt_of_ne hki with hlt | hlt
      · have := hp k i hkl hil hlt
        rw [hke, hie] at this
        exact this b hb hbi
      · have := hp i k hil hkl hlt
        rw [hke, hie] at this
        exact this b hbi hb
    refine ⟨c, Fi, ho, fun b hb => List.mem_cons.2 (.inr (hsub b hb)), (nodup_flatten.1 hnF).1 Fi hmemFi, fun hm => hgF (hsub g hm), List.mem_cons_self .., fun j u hu => ?_, fun j => frozen_of_row w g j cur _ hg, ?_⟩
    · have hj : j < Rep.sz α := by rw [← h3 c hcm']; exact (List.getElem?_eq_some_iff.1 hu).1
      have hfl := flatten_at h3 hc hj
      have := hrow.cells (g := g) rfl (i * Rep.sz α + j) u (by rw [hfl]; exact hu)
      rw [addr_add, Nat.zero_add] at this
      exact this
    · intro w' d y G hoG hnG hGs hrest hblock
      obtain ⟨cur', hg', hsz', hin, hout⟩ := hblock cur _ hg
      have hd : d.length = Rep.sz α := Rep.len (Own.rd_of hoG)
      have hFsl : Fs.length = xs.length := h1
      -- each element in the new world
      have hall' : ownAll w' (Fs.set i G) (cs.set i d) (xs.set i y) := by
        have key : ∀ (Fs : List (List Nat)) (cs : List (List Value)) (xs : List α) (i : Nat), ownAll w Fs cs xs → (∀ k Fk, Fs[k]? = some Fk → k ≠ i → ∀ b, b ∈ Fk → w'.heap[b]? = w.heap[b]?) → ownAll w' (Fs.set i G) (cs.set i d) (xs.set i y) := by
          intro Fs
          induction Fs with
          | nil =>
            intro cs xs i h _
            cases cs <;> cases xs <;> first | exact h.elim | (cases i <;> exact trivial)
          | cons F Fs ih =>
            intro cs xs i h hk
            cases cs with
            | nil => cases xs <;> exact h.elim
            | cons c cs =>
              cases xs with
              | nil => exact h.elim
              | cons x xs =>
                cases i with
                | zero => exact ⟨hoG, ownAll.frame (w := w) (fun b hb => by
                    obtain ⟨L, hL, hbL⟩ := List.mem_flatten.1 hb
                    obtain ⟨k, hkl, hke⟩ := List.getElem_of_mem hL
                    exact hk (k + 1) L (by simp [hkl, hke]) (by omega) b hbL) h.2⟩
                | succ i =>
                  exact ⟨Own.oframe (fun b hb => hk 0 F rfl (by omega) b hb) h.1, ih cs xs i h.2 fun k Fk hFk hki b hb => hk (k + 1) Fk (by simpa using hFk) (by omega) b hb⟩
        refine key Fs cs xs i hall fun k Fk hFk hki b hb => ?_
        have hbF : b ∈ Fs.flatten := List.mem_flatten.2 ⟨Fk, List.mem_of_getElem? hFk, hb⟩
        exact hrest b (hall.lt b hbF) (hother k Fk hFk hki b hb) (fun e => hgF (e ▸ hbF))
      have hmemset : ∀ b, b ∈ (Fs.set i G).flatten → b ∈ Fs.flatten ∨ w.heap.size ≤ b := by
        intro b hb
        obtain ⟨L, hL, hbL⟩ := List.mem_flatten.1 hb
        rcases List.mem_or_eq_of_mem_set hL with hL | rfl
        · exact .inl (List.mem_flatten.2 ⟨L, hL, hbL⟩)
        · rcases hGs b hbL with h | h
          · exact .inl (hsub b h)
          · exact .inr h
      have hgset : g ∉ (Fs.set i G).flatten := by
        intro hm
        rcases hmemset g hm with h | h
        · exact hgF h
        · omega
      have hnset : (Fs.set i G).flatten.Nodup := by
        refine nodup_flatten.2 ⟨fun L hL => ?_, List.pairwise_iff_getElem.2 fun a b ha hb hab => ?_⟩
        · rcases List.mem_or_eq_of_mem_set hL with hL | rfl
          · exact (nodup_flatten.1 hnF).1 L hL
          · exact hnG
        · rw [List.length_set] at ha hb
          have hp := List.pairwise_iff_getElem.1 (nodup_flatten.1 hnF).2 a b ha hb hab
          rw [List.getElem_set, List.getElem_set]
          intro x hx hx'
          by_cases hia : i = a
          · subst hia
            rw [if_pos rfl] at hx
            rw [if_neg (by omega)] at hx'
            rcases hGs x hx with h | h
            · exact hother b _ (List.getElem?_eq_getElem hb) (by omega) x hx' h
            · have := hall.lt x (List.mem_flatten.2 ⟨_, List.getElem_mem hb, hx'⟩); omega
          · rw [if_neg hia] at hx
            by_cases hib : i = b
            · subst hib
              rw [if_pos rfl] at hx'
              rcases hGs x hx' with h | h
              · exact hother a _ (List.getElem?_eq_getElem ha) (by omega) x hx h
              · have := hall.lt x (List.mem_flatten.2 ⟨_, List.getElem_mem ha, hx⟩); omega
            · rw [if_neg hib] at hx'
              exact hp x hx hx'
      refine ⟨g :: (Fs.set i G).flatten, ⟨_, cs.set i d, Fs.set i G, rfl, ⟨?_, .inr ⟨g, cap, cur', ?_, Nat.zero_le _, hg', ?_, hcm, ?_, ?_⟩⟩, by simp [Value.ownBlock], hall', hz⟩, List.nodup_cons.2 ⟨hgset, hnset⟩, fun b hb => ?_⟩
      · rw [flatten_len (z := Rep.sz α) hall'.lens.2.2]; simp [h2]
      · simp
      · simpa using hnc
      · rw [hsz']; exact hcs
      · have hle2 : xs.length * Rep.sz α ≤ cap * Rep.sz α := Nat.mul_le_mul_right _ hnc
        rw [List.length_set]
        refine flatten_ext hz hall'.lens.2.2 (n := xs.length) (by simp [h2]) (by simp; rw [hsz', hcs]; omega) fun k ck hck j hj => ?_
        have hkl : k < xs.length := by have := (List.getElem?_eq_some_iff.1 hck).1; simpa [h2] using this
        have hkj : k * Rep.sz α + j < xs.length * Rep.sz α := by
          calc k * Rep.sz α + j < k * Rep.sz α + Rep.sz α := by omega
            _ = (k + 1) * Rep.sz α := by rw [Nat.add_mul]; omega
            _ ≤ xs.length * Rep.sz α := Nat.mul_le_mul_right _ (by omega)
        rw [List.getElem?_take, if_pos hkj]
        by_cases hki : k = i
        · subst hki
          rw [List.getElem?_set_self (by omega)] at hck
          simp at hck
          subst hck
          simpa using hin j hj
        · rw [List.getElem?_set_ne (by omega)] at hck
          have hne : k * Rep.sz α + j < i * Rep.sz α ∨ i * Rep.sz α + Rep.sz α ≤ k * Rep.sz α + j := by
            rcases Nat.lt_or_gt_of_ne hki with hlt | hlt
            · left
              calc k * Rep.sz α + j < k * Rep.sz α + Rep.sz α := by omega
                _ = (k + 1) * Rep.sz α := by rw [Nat.add_mul]; omega
                _ ≤ i * Rep.sz α := Nat.mul_le_mul_right _ (by omega)
            · right
              calc i * Rep.sz α + Rep.sz α = (i + 1) * Rep.sz α := by rw [Nat.add_mul]; omega
                _ ≤ k * Rep.sz α := Nat.mul_le_mul_right _ (by omega)
                _ ≤ k * Rep.sz α + j := by omega
          have e1 := hout _ hne
          have e2 := flatten_at h3 hck hj
          rw [← htake, List.getElem?_take, if_pos hkj] at e2
          rw [← e2]
          simpa using e1
      · rcases List.mem_cons.1 hb with rfl | hb
        · exact .inl (List.mem_cons_self ..)
        · rcases hmemset b hb with h | h
          · exact .inl (List.mem_cons.2 (.inr h))
          · exact .inr h
end

section
variable {P : Program} {ops : Array Oper} {o : Oper} {a : Act} {w : World} {K : Act → World → Prop} {Q : Exit → Act → World → Prop} {E : Prop} {α : Type} [Own α] [Tid α]
/-- 'append(out, ys...)' as one step of a region that draws -/
theorem step_app_leaf [Leaf α] {t : TypeId} {bytes : Nat} (T : SlT P t α bytes) (hg : o.guard = none) (s x : Operand) (hop : o.op = Op.call { callee := Callee.builtin Builtin.append, args := #[s, x], argTypes := #[t, t] })
    {B m0 : Nat} {v : Value} {xs : List α} (hs : a.eval s = v) (h : Fresh B m0 w [v] xs) (hB : B ≤ w.heap.size)
    {S : Nat → Prop} {ad : Option Addr} {n c : Nat} {ys : List α} (hx : a.eval x = .slice ad n c) (hn : n = ys.length) (hy : IsSlice S w ad c ys) (hbytes : (xs.length + ys.length) * bytes ≤ 140737488355328) (h63 : xs.length + ys.length ≤ maxLen)
    (hK : ∀ a' c' w', Grew B m0 w w' (.slice a' (xs.length + ys.length) c') (xs ++ ys) → K (a.put o.dst (.slice a' (xs.length + ys.length) c')) w') :
    if Region.wanted o (yielded ops a.tmps) = true then Oper.wp P o a w K Q else E := by
  have hw : Region.wanted o (yielded ops a.tmps) = true := by simp [Region.wanted, hg]
  rw [if_pos hw]
  subst hn
  obtain ⟨a', c', w', hr, hgr⟩ := run_app_leaf (P := P) (ty := o.type) T h hB hy hbytes h63
  unfold Oper.wp execOp
  simp only [hop, resolve, invoke, builtin, Sem.run_bind, Sem.run_pure, Result.andThen_ok, List.map_toArray, List.map_cons, List.map_nil, hs, hx, hr]
  exact hK a' c' w' hgr
end

/-- where a slice's cut begins -/
def cutA (a : Option Addr) (cap k z : Nat) : Option Addr := if cap = k then a else a.map (fun x => x.add (k * z))
section
variable {P : Program} {α : Type} [Rep α] {S : Nat → Prop} {w : World}
theorem IsSlice.cut {a : Option Addr} {cap : Nat} {xs : List α} (h : IsSlice S w a cap xs) {k : Nat} (hk : k ≤ xs.length) : IsSlice S w (cutA a cap k (Rep.sz α)) (cap - k) (xs.drop k) := by
  refine ⟨by have := h.1; simp; omega, by have := h.2.1; omega, fun i hi => ?_⟩
  have hi' : k + i < xs.length := by simp at hi; omega
  obtain ⟨g, off, us, rfl, h2, h3, h4, h5⟩ := h.2.2 (k + i) hi'
  have hne : cap ≠ k := by have := h.1; omega
  refine ⟨g, off + k * Rep.sz α, us, ?_, h2, fun j u hu => ?_, by rw [List.getElem_drop]; exact h4, h5⟩
  · unfold cutA; rw [if_neg hne]; simp only [Option.map_some, addr_add]
  · have := h3 j u hu
    rw [Nat.add_mul] at this
    rw [← this]
    congr 2
    omega
theorem IsSlice.take {a : Option Addr} {cap : Nat} {xs : List α} (h : IsSlice S w a cap xs) (k : Nat) : IsSlice S w a cap (xs.take k) := by
  refine ⟨by have := h.1; simp; omega, h.2.1, fun i hi => ?_⟩
  have hi' : i < xs.length := by simp at hi; omega
  rw [List.getElem_take]
  exact h.2.2 i hi'
variable [Tid α]
/-- s[k:] -/
theorem run_cut {t : TypeId} {bytes : Nat} (T : SlT P t α bytes) (a : Option Addr) (n cap k : Nat) (h1 : k ≤ n) (w : World) :
    (Instr.slice t (.slice a n cap) (some (.int .i64 (k : Int))) none none).run P w = .ok (.slice (cutA a cap k (Rep.sz α)) (n - k) (cap - k)) w := by
  obtain ⟨i, z, hi, hz0, hsz, hby, hzs⟩ := T.hi
  simp [Instr.slice, Instr.sliceBounds, Instr.sliceBound, run_underlying T.ht, asIntOf, h1, sizeOf, typeInfo, hi, hsz, cutA]
/-- s[1:] -/
theorem run_cut1 {t : TypeId} {bytes : Nat} (T : SlT P t α bytes) (a : Option Addr) (n cap : Nat) (h1 : 1 ≤ n) (w : World) :
    (Instr.slice t (.slice a n cap) (some (.int .i64 1)) none none).run P w = .ok (.slice (cutA a cap 1 (Rep.sz α)) (n - 1) (cap - 1)) w :=
  run_cut T a n cap 1 h1 w
/-- s[k:h] -/
theorem run_cut2 {t : TypeId} {bytes : Nat} (T : SlT P t α bytes) (a : Option Addr) (n cap k h : Nat) (h1 : k ≤ h) (h2 : h ≤ cap) (w : World) :
    (Instr.slice t (.slice a n cap) (some (.int .i64 (k : Int))) (some (.int .i64 (h : Int))) none).run P w = .ok (.slice (cutA a cap k (Rep.sz α)) (h - k) (cap - k)) w := by
  obtain ⟨i, z, hi, hz0, hsz, hby, hzs⟩ := T.hi
  simp [Instr.slice, Instr.sliceBounds, Instr.sliceBound, run_underlying T.ht, asIntOf, h1, h2, sizeOf, typeInfo, hi, hsz, cutA]
/-- s[:h] -/
theorem run_cut0 {t : TypeId} {bytes : Nat} (T : SlT P t α bytes) (a : Option Addr) (n cap h : Nat) (h2 : h ≤ cap) (w : World) :
    (Instr.slice t (.slice a n cap) none (some (.int .i64 (h : Int))) none).run P w = .ok (.slice a h cap) w := by
  obtain ⟨i, z, hi, hz0, hsz, hby, hzs⟩ := T.hi
  cases a with
  | none => simp [Instr.slice, Instr.sliceBounds, Instr.sliceBound, run_underlying T.ht, asIntOf, h2, sizeOf, typeInfo, hi]
  | some ad =>
    simp [Instr.slice, Instr.sliceBounds, Instr.sliceBound, run_underlying T.ht, asIntOf, h2, sizeOf, typeInfo, hi, Addr.add]
end
/-- []T{} -/
theorem Fresh.empty {β : Type} [Own β] [Tid β] (hz : 0 < Rep.sz β) (B : Nat) (w : World) (hB : B ≤ w.heap.size) : Fresh B (w.heap.size + 1) (w.alloc (.cells #[] (Tid.tid β))) [.slice (some ⟨w.heap.size, 0, none⟩) 0 0] ([] : List β) := by
  refine ⟨[w.heap.size], ⟨_, [], [], rfl, ?_, rfl, trivial, hz⟩, by simp, fun b hb => ?_⟩
  · have := World.ownsRow_lit (base := 0) (e := Tid.tid β) (size := Rep.sz β) w #[] 0 (Nat.zero_le _) (Nat.zero_le _) (by simp)
    simpa using this
  · simp at hb; omega
end Go.Vc
namespace Go.Vc
open Go.RowKit
open Rep (rd)
open Own (own)

/-- cell f of an α is a field that reads as a β -/
def Lens (α β : Type) [Own α] [Own β] (f : Nat) (get : α → β) (put : α → β → α) : Prop :=
  f < Rep.sz α ∧ ∀ (F : List Nat) (w : World) (c : List Value) (x : α), own F w c x → ∃ F1 Fl F2 lv, c[f]? = some lv ∧ F = F1 ++ (Fl ++ F2) ∧ own Fl w [lv] (get x) ∧
    ∀ (w' : World) (Fl' : List Nat) (lv' : Value) (y : β), (∀ b, b ∈ F1 ++ F2 → w'.heap[b]? = w.heap[b]?) → own Fl' w' [lv'] y → own (F1 ++ (Fl' ++ F2)) w' (c.set f lv') (put x y)

theorem lens_delta [Tid ByteArray] : Lens Delta (List ByteArray) 2 (·.lines) (fun d l => ⟨d.fr, d.many, l⟩) := by
  refine ⟨show 2 < 3 by omega, ?_⟩
  rintro F w c x ⟨_, _, _, F2, rfl, rfl, ⟨rfl, rfl, h1⟩, _, _, _, F3, rfl, rfl, ⟨rfl, rfl, h2⟩, h3⟩
  have hl := h3
  obtain ⟨v, cs, Fs, rfl, _⟩ := h3
  refine ⟨[], F3, [], v, rfl, by simp, hl, fun w' Fl' lv' y _ hy => ?_⟩
  rw [List.append_nil]
  exact ⟨[_], [_, _], [], Fl', rfl, rfl, ⟨rfl, rfl, h1⟩, [_], [_], [], Fl', rfl, rfl, ⟨rfl, rfl, h2⟩, hy⟩

section
variable {P : Program} {w : World} {α β : Type} [Own α] [Tid α] [Own β] [Tid β]
/-- the head of an own slice that holds something -/
theorem Fresh.addr {B m n cap : Nat} {a : Option Addr} {xs : List α} (h : Fresh B m w [.slice a n cap] xs) (hx : 0 < xs.length) : ∃ g, a = some ⟨g, 0, none⟩ ∧ B ≤ g ∧ g < m := by
  obtain ⟨F, ⟨v, cs, Fs, hv, hrow, rfl, _⟩, _, hb⟩ := h
  simp at hv
  subst hv
  rcases hrow.2 with ⟨hh, hn⟩ | ⟨g, cap', cur, hh, _⟩
  · omega
  · simp only [Value.slice.injEq] at hh
    obtain ⟨rfl, _, _⟩ := hh
    exact ⟨g, rfl, hb g (by simp [Value.ownBlock])⟩

/-- 'append(out[i].field, ys...)', and the store of what it gives -/
theorem run_app_lens [Leaf β] {f : Nat} {get : α → List β} {put : α → List β → α} (L : Lens α (List β) f get put) {t ty : TypeId} {bytes : Nat} (T : SlT P t β bytes) {B m g n cap : Nat} {xs : List α}
    (h : Fresh B m w [.slice (some ⟨g, 0, none⟩) n cap] xs) (hB : B ≤ w.heap.size) {i : Nat} (hi : i < xs.length) {al : Option Addr} {nl cl : Nat} (hcell : w.cell? ⟨g, i * Rep.sz α + f, none⟩ = some (.slice al nl cl))
    {S : Nat → Prop} {a : Option Addr} {c : Nat} {ys : List β} (hy : IsSlice S w a c ys) (hbytes : ((get xs[i]).length + ys.length) * bytes ≤ 140737488355328) (h63 : (get xs[i]).length + ys.length ≤ maxLen) :
    ∃ a' c' w1, (Builtin.append_ #[t, t] ty #[.slice al nl cl, .slice a ys.length c]).run P w = .ok (.slice a' (nl + ys.length) c') w1 ∧ nl = (get xs[i]).length ∧
      (∃ u, w1.cell? ⟨g, i * Rep.sz α + f, none⟩ = some u) ∧ w1.frozen? ⟨g, i * Rep.sz α + f, none⟩ = false ∧ Below B w w1 ∧ B ≤ g ∧
      Fresh B (w1.setCell ⟨g, i * Rep.sz α + f, none⟩ (.slice a' (nl + ys.length) c')).heap.size (w1.setCell ⟨g, i * Rep.sz α + f, none⟩ (.slice a' (nl + ys.length) c')) [.slice (some ⟨g, 0, none⟩) n cap] (xs.set i (put xs[i] (get xs[i] ++ ys))) := by
  obtain ⟨F, ho, hn, hb⟩ := h
  obtain ⟨ce, Fi, hoi, hsub, hnFi, hgFi, hgF, hcells, hfz, hfoc⟩ := own_focus ho hn hi
  obtain ⟨hf, hL⟩ := L
  obtain ⟨F1, Fl, F2, lv, hlv, rfl, hol, hput⟩ := hL Fi w ce xs[i] hoi
  have hlv' : lv = .slice al nl cl := by
    have := hcells f lv hlv
    rw [hcell] at this
    simp at this
    exact this.symm
  subst hlv'
  have hnl : nl = (get xs[i]).length := (rd_slice_of (Own.rd_of hol)).1
  obtain ⟨hn1, hn23, hd1⟩ := List.nodup_append.1 hnFi
  obtain ⟨hnl', hn2, hd2⟩ := List.nodup_append.1 hn23
  obtain ⟨ns, hsrc, hall⟩ := hy.src
  obtain ⟨v', w1, Fl', hr, ho', hn', hg, hF'⟩ := run_app (P := P) (ty := ty) T hol (a := a) (c := c) rfl hsrc hall (by rw [flatten_replicate_nil, List.append_nil]; exact hnl') hbytes h63
  obtain ⟨a', c', rfl, _⟩ := rd_slice_elim (Own.rd_of ho')
  rw [List.length_append, ← hnl] at hr ho'
  have hbl : ∀ b, (Value.slice al nl cl).ownBlock = some b → b ∈ Fl := own_ownBlock hol
  have hF'' : ∀ b, b ∈ Fl' → b ∈ Fl ∨ w.heap.size ≤ b := fun b hb => by
    rcases hF' b hb with h | h | h
    · exact .inl h
    · rw [flatten_replicate_nil] at h; cases h
    · exact .inr h
  have hglt : g < w.heap.size := World.block_lt_of_cell? w _ hcell
  have hgb : w1.heap[g]? = w.heap[g]? := hg.block g hglt fun e => hgFi (by simp [hbl g e.symm])
  have hltF : ∀ b, b ∈ F1 ++ (Fl ++ F2) → b < w.heap.size := Own.lt hoi
  refine ⟨a', c', w1, hr, hnl, ⟨_, by rw [World.cell?_of_block (w := w) hgb]; exact hcell⟩, by rw [World.frozen?_of_block (w := w) hgb]; exact hfz _, (Below.refl B w).grown hg hB fun k hk => (hb k (hsub k (by simp [hbl k hk]))).1, (hb g hgF).1, ?_⟩
  have hol' : own Fl' (w1.setCell ⟨g, i * Rep.sz α + f, none⟩ (.slice a' (nl + ys.length) c')) [.slice a' (nl + ys.length) c'] (get xs[i] ++ ys) :=
    Own.oframe (fun b hbm => Below.heap_setCell w1 _ _ b fun e => by
      simp only at e
      subst e
      rcases hF'' b hbm with h | h
      · exact hgFi (by simp [h])
      · omega) ho'
  have hkeep : ∀ b, b ∈ F1 ++ F2 → (w1.setCell ⟨g, i * Rep.sz α + f, none⟩ (.slice a' (nl + ys.length) c')).heap[b]? = w.heap[b]? := fun b hbm => by
    have hbF : b ∈ F1 ++ (Fl ++ F2) := by
      rcases List.mem_append.1 hbm with h | h
      · exact List.mem_append.2 (.inl h)
      · exact List.mem_append.2 (.inr (List.mem_append.2 (.inr h)))
    rw [Below.heap_setCell w1 _ _ b fun e => hgFi (by simp only at e; rw [← e]; exact hbF)]
    refine hg.block b (hltF b hbF) fun e => ?_
    have hbl' := hbl b e.symm
    rcases List.mem_append.1 hbm with h | h
    · exact hd1 b h b (List.mem_append.2 (.inl hbl')) rfl
    · exact hd2 b hbl' b h rfl
  have hfl' : ∀ b, b ∈ Fl' → b ∉ F1 ∧ b ∉ F2 := fun b hbm => by
    rcases hF'' b hbm with h | h
    · exact ⟨fun h1 => hd1 b h1 b (List.mem_append.2 (.inl h)) rfl, fun h1 => hd2 b h b h1 rfl⟩
    · exact ⟨fun h1 => by have := hltF b (List.mem_append.2 (.inl h1)); omega, fun h1 => by have := hltF b (List.mem_append.2 (.inr (List.mem_append.2 (.inr h1)))); omega⟩
  have hlce : ce.length = Rep.sz α := Rep.len (Own.rd_of hoi)
  obtain ⟨FF, hoF, hnF, hFF⟩ := hfoc _ (ce.set f (.slice a' (nl + ys.length) c')) (put xs[i] (get xs[i] ++ ys)) (F1 ++ (Fl' ++ F2)) (hput _ Fl' _ _ hkeep hol')
    (List.nodup_append.2 ⟨hn1, List.nodup_append.2 ⟨hn', hn2, fun a ha b hbb e => (hfl' a ha).2 (e ▸ hbb)⟩, fun a ha b hbb e => by
      subst e
      rcases List.mem_append.1 hbb with h | h
      · exact (hfl' a h).1 ha
      · exact hd1 a ha a (List.mem_append.2 (.inr h)) rfl⟩)
    (fun b hbm => by
      rcases List.mem_append.1 hbm with h | h
      · exact .inl (List.mem_append.2 (.inl h))
      · rcases List.mem_append.1 h with h | h
        · rcases hF'' b h with h | h
          · exact .inl (List.mem_append.2 (.inr (List.mem_append.2 (.inl h))))
          · exact .inr h
        · exact .inl (List.mem_append.2 (.inr (List.mem_append.2 (.inr h)))))
    (fun b hbl2 hbF hbg => by
      rw [Below.heap_setCell w1 _ _ b hbg]
      exact hg.block b hbl2 fun e => hbF (List.mem_append.2 (.inr (List.mem_append.2 (.inl (hbl b e.symm))))))
    (fun cur e hgc => by
      have hgc1 : w1.heap[g]? = some (.cells cur e (0, 0)) := hgb.trans hgc
      refine ⟨_, heap_setCell_same w1 g _ cur e _ hgc1, by simp, fun j hj => ?_, fun j hj => ?_⟩
      · by_cases hjf : j = f
        · subst hjf
          have hlt : i * Rep.sz α + j < cur.size := by
            have := hcell
            rw [cell_of_row w g _ cur e (0, 0) hgc] at this
            exact (Array.getElem?_eq_some_iff.1 this).1
          rw [Array.getElem?_setIfInBounds_self_of_lt hlt, List.getElem?_set_self (by omega)]
        · rw [Array.getElem?_setIfInBounds_ne (by omega), List.getElem?_set_ne (by omega)]
          have hjc : ce[j]? = some (ce[j]'(by omega)) := List.getElem?_eq_getElem _
          have := hcells j _ hjc
          rw [cell_of_row w g _ cur e (0, 0) hgc] at this
          rw [this, hjc]
      · rw [Array.getElem?_setIfInBounds_ne (by omega)])
  exact ⟨FF, hoF, hnF, fun b hbm => ⟨by
    rcases hFF b hbm with h | h
    · exact (hb b h).1
    · omega, Own.lt hoF b hbm⟩⟩
end

section
variable {P : Program} {ops : Array Oper} {o : Oper} {a : Act} {w : World} {K : Act → World → Prop} {Q : Exit → Act → World → Prop} {E : Prop} {α β : Type} [Own α] [Tid α] [Own β] [Tid β]
/-- the same as one step of a region that draws -/
theorem step_app_lens [Leaf β] {f : Nat} {get : α → List β} {put : α → List β → α} (L : Lens α (List β) f get put) {t : TypeId} {bytes : Nat} (T : SlT P t β bytes) (hg : o.guard = none) (s x : Operand) (hop : o.op = Op.call { callee := Callee.builtin Builtin.append, args := #[s, x], argTypes := #[t, t] })
    {B m g n cap : Nat} {xs : List α} (h : Fresh B m w [.slice (some ⟨g, 0, none⟩) n cap] xs) (hB : B ≤ w.heap.size) {i : Nat} (hi : i < xs.length) {al : Option Addr} {nl cl : Nat} (hs : a.eval s = .slice al nl cl)
    (hcell : w.cell? ⟨g, i * Rep.sz α + f, none⟩ = some (.slice al nl cl))
    {S : Nat → Prop} {ad : Option Addr} {k c : Nat} {ys : List β} (hx : a.eval x = .slice ad k c) (hk : k = ys.length) (hy : IsSlice S w ad c ys) (hbytes : ((get xs[i]).length + ys.length) * bytes ≤ 140737488355328) (h63 : (get xs[i]).length + ys.length ≤ maxLen)
    (hK : ∀ a' c' w1, (∃ u, w1.cell? ⟨g, i * Rep.sz α + f, none⟩ = some u) → w1.frozen? ⟨g, i * Rep.sz α + f, none⟩ = false → Below B w w1 → B ≤ g →
      Fresh B (w1.setCell ⟨g, i * Rep.sz α + f, none⟩ (.slice a' (nl + k) c')).heap.size (w1.setCell ⟨g, i * Rep.sz α + f, none⟩ (.slice a' (nl + k) c')) [.slice (some ⟨g, 0, none⟩) n cap] (xs.set i (put xs[i] (get xs[i] ++ ys))) →
      K (a.put o.dst (.slice a' (nl + k) c')) w1) :
    if Region.wanted o (yielded ops a.tmps) = true then Oper.wp P o a w K Q else E := by
  have hw : Region.wanted o (yielded ops a.tmps) = true := by simp [Region.wanted, hg]
  rw [if_pos hw]
  subst hk
  obtain ⟨a', c', w1, hr, _, h1, h2, h3, h4, h5⟩ := run_app_lens (P := P) (ty := o.type) L T h hB hi hcell hy hbytes h63
  unfold Oper.wp execOp
  simp only [hop, resolve, invoke, builtin, Sem.run_bind, Sem.run_pure, Result.andThen_ok, List.map_toArray, List.map_cons, List.map_nil, hs, hx, hr]
  exact hK a' c' w1 h1 h2 h3 h4 h5
end

theorem flatten_singles {α : Type} : ∀ l : List α, (l.map fun u => [u]).flatten = l
  | [] => rfl
  | x :: l => by rw [List.map_cons, List.flatten_cons, flatten_singles l]; rfl
/-- a new slice of leaves of one cell each, written out -/
theorem Fresh.lit {β : Type} [Own β] [Tid β] [Leaf β] (hz : Rep.sz β = 1) (B : Nat) (w : World) (hB : B ≤ w.heap.size) (us : List Value) (xs : List β) (hl : us.length = xs.length) (hm : xs.length ≤ maxLen) (h : ∀ i (hi : i < xs.length) u, us[i]? = some u → own [] (w.alloc (.cells us.toArray (Tid.tid β))) [u] xs[i]) :
    Fresh B (w.heap.size + 1) (w.alloc (.cells us.toArray (Tid.tid β))) [.slice (some ⟨w.heap.size, 0, none⟩) xs.length xs.length] xs := by
  have hfl : (us.map fun u => [u]).flatten = us := flatten_singles us
  refine ⟨[w.heap.size], ⟨_, us.map fun u => [u], List.replicate xs.length [], rfl, ?_, by rw [flatten_replicate_nil]; rfl, ownAll_leaf _ _ (by simpa using hl) fun i hi c hc => ?_, by omega⟩, by simp, fun b hb => ?_⟩
  · have := World.ownsRow_lit (base := 0) (e := Tid.tid β) (size := Rep.sz β) w us.toArray xs.length (Nat.zero_le _) hm (by simp [hz, hl])
    rw [hfl]
    simpa using this
  · rw [List.getElem?_map] at hc
    cases hu : us[i]? with
    | none => rw [hu] at hc; cases hc
    | some u =>
      rw [hu] at hc
      simp at hc
      subst hc
      exact h i hi u hu
  · simp at hb; omega
end Go.Vc
namespace Go.Vc
open Go.RowKit
open Rep (rd)
open Own (own)

/-- w' is w with more memory, and with writes to the blocks of F alone -/
structure TouchF (F : List Nat) (w w' : World) : Prop where
  os : w'.os = w.os
  tape : w'.tape = w.tape
  output : w'.output = w.output
  size : w.heap.size ≤ w'.heap.size
  rest : ∀ b, b < w.heap.size → b ∉ F → w'.heap[b]? = w.heap[b]?
theorem TouchF.refl (F : List Nat) (w : World) : TouchF F w w := ⟨rfl, rfl, rfl, Nat.le_refl _, fun _ _ _ => rfl⟩
theorem TouchF.trans {F G : List Nat} {a b c : World} (h : TouchF F a b) (k : TouchF G b c) (hG : ∀ x, x ∈ G → x ∈ F ∨ a.heap.size ≤ x) : TouchF F a c :=
  ⟨k.os.trans h.os, k.tape.trans h.tape, k.output.trans h.output, Nat.le_trans h.size k.size, fun x hx hxF =>
    (k.rest x (Nat.lt_of_lt_of_le hx h.size) fun hg => by rcases hG x hg with h1 | h1; exact hxF h1; omega).trans (h.rest x hx hxF)⟩
theorem TouchF.below {F : List Nat} {w w' : World} {B : Nat} (h : TouchF F w w') (hB : B ≤ w.heap.size) (hF : ∀ b, b ∈ F → B ≤ b) : Below B w w' :=
  ⟨h.os, h.tape, h.output, h.size, fun k hk => h.rest k (by omega) fun hm => by have := hF k hm; omega⟩
theorem TouchF.of_below {F : List Nat} {w w' : World} (h : Below w.heap.size w w') : TouchF F w w' := ⟨h.os, h.tape, h.output, h.size, fun b hb _ => h.block b hb⟩
theorem TouchF.setCell {F : List Nat} {a w : World} (h : TouchF F a w) {p : Addr} (hp : p.block ∈ F ∨ a.heap.size ≤ p.block) (u : Value) : TouchF F a (w.setCell p u) :=
  h.trans (G := [p.block]) ⟨rfl, rfl, rfl, by simp [World.setCell], fun b _ hb => Below.heap_setCell w p u b (by simpa using hb)⟩ (by simpa using hp)

/-- F' is of F, and of what was made behind w -/
def Of (w : World) (F F' : List Nat) : Prop := ∀ b, b ∈ F' → b ∈ F ∨ w.heap.size ≤ b
theorem Of.refl (w : World) (F : List Nat) : Of w F F := fun _ h => .inl h
theorem Of.trans {a b : World} {F G K : List Nat} (h : Of a F G) (k : Of b G K) (hs : a.heap.size ≤ b.heap.size) : Of a F K := fun x hx => by
  rcases k x hx with h1 | h1
  · exact h x h1
  · exact .inr (by omega)

/-- own data, some of its blocks new since w -/
def Still {α : Type} [Own α] (F : List Nat) (w w' : World) (vs : List Value) (x : α) : Prop := ∃ F', own F' w' vs x ∧ F'.Nodup ∧ Of w F F' ∧ TouchF F w w'
theorem Still.start {α : Type} [Own α] {F : List Nat} {w : World} {vs : List Value} {x : α} (h : own F w vs x) (hn : F.Nodup) : Still F w w vs x := ⟨F, h, hn, Of.refl _ _, TouchF.refl _ _⟩
theorem Still.touch {α : Type} [Own α] {F : List Nat} {w w' : World} {vs : List Value} {x : α} (h : Still F w w' vs x) : TouchF F w w' := let ⟨_, _, _, _, h⟩ := h; h
theorem Still.below {α : Type} [Own α] {F : List Nat} {w w' w2 : World} {vs : List Value} {x : α} (h : Still F w w' vs x) (hb : Below w'.heap.size w' w2) : Still F w w2 vs x := by
  obtain ⟨F', ho, hn, hof, ht⟩ := h
  exact ⟨F', Own.oframe (fun b hm => hb.block b (Own.lt ho b hm)) ho, hn, hof, ht.trans (TouchF.of_below (F := []) hb) (fun _ hx => by cases hx)⟩
theorem Still.rd {α : Type} [Own α] {F : List Nat} {w w' : World} {vs : List Value} {x : α} (h : Still F w w' vs x) : Rep.rd (fun _ => True) w' vs x := by
  obtain ⟨F', ho, _⟩ := h
  exact Rep.mono (fun _ _ => trivial) (Own.rd_of ho)

section
variable {w : World} {α β : Type} [Own α] [Tid α] [Own β]
theorem own_addr {F : List Nat} {a : Option Addr} {n cap : Nat} {xs : List α} (h : own F w [.slice a n cap] xs) (hx : 0 < xs.length) : ∃ g, a = some ⟨g, 0, none⟩ ∧ g ∈ F := by
  obtain ⟨v, cs, Fs, hv, hrow, rfl, _⟩ := h
  simp at hv
  subst hv
  rcases hrow.2 with ⟨hh, hn⟩ | ⟨g, cap', cur, hh, _⟩
  · omega
  · simp only [Value.slice.injEq] at hh
    obtain ⟨rfl, _, _⟩ := hh
    exact ⟨g, rfl, by simp [Value.ownBlock]⟩

/-- a field of element i written -/
theorem own_setf [Leaf β] {f : Nat} {get : α → β} {put : α → β → α} (L : Lens α β f get put) {F : List Nat} {g n cap : Nat} {xs : List α} (h : own F w [.slice (some ⟨g, 0, none⟩) n cap] xs) (hn : F.Nodup) {i : Nat} (hi : i < xs.length)
    {u : Value} {y : β} (hy : ∀ w', own [] w' [u] y) :
    (∃ u', w.cell? ⟨g, i * Rep.sz α + f, none⟩ = some u') ∧ w.frozen? ⟨g, i * Rep.sz α + f, none⟩ = false ∧ g ∈ F ∧
      ∃ F', own F' (w.setCell ⟨g, i * Rep.sz α + f, none⟩ u) [.slice (some ⟨g, 0, none⟩) n cap] (xs.set i (put xs[i] y)) ∧ F'.Nodup ∧ Of w F F' := by
  obtain ⟨ce, Fi, hoi, hsub, hnFi, hgFi, hgF, hcells, hfz, hfoc⟩ := own_focus h hn hi
  obtain ⟨hf, hL⟩ := L
  obtain ⟨F1, Fl, F2, lv, hlv, rfl, hol, hput⟩ := hL Fi w ce xs[i] hoi
  have hFl : Fl = [] := Leaf.none hol
  subst hFl
  have hg : w.cell? ⟨g, i * Rep.sz α + f, none⟩ = some lv := hcells f lv hlv
  have hlce : ce.length = Rep.sz α := Rep.len (Own.rd_of hoi)
  obtain ⟨FF, hoF, hnF, hFF⟩ := hfoc (w.setCell ⟨g, i * Rep.sz α + f, none⟩ u) (ce.set f u) (put xs[i] y) (F1 ++ ([] ++ F2)) (hput _ [] _ _ (fun b hb => Below.heap_setCell w _ _ b fun e => hgFi (by simp only at e; rw [← e]; simpa using hb)) (hy _)) hnFi (fun b hb => .inl hb)
    (fun b _ _ hbg => Below.heap_setCell w _ _ b hbg) (fun cur e hgc => by
      refine ⟨_, heap_setCell_same w g _ cur e _ hgc, by simp, fun j hj => ?_, fun j hj => ?_⟩
      · by_cases hjf : j = f
        · subst hjf
          have hlt : i * Rep.sz α + j < cur.size := by
            have := hg
            rw [cell_of_row w g _ cur e (0, 0) hgc] at this
            exact (Array.getElem?_eq_some_iff.1 this).1
          rw [Array.getElem?_setIfInBounds_self_of_lt hlt, List.getElem?_set_self (by omega)]
        · rw [Array.getElem?_setIfInBounds_ne (by omega), List.getElem?_set_ne (by omega)]
          have hjc : ce[j]? = some (ce[j]'(by omega)) := List.getElem?_eq_getElem _
          have := hcells j _ hjc
          rw [cell_of_row w g _ cur e (0, 0) hgc] at this
          rw [this, hjc]
      · rw [Array.getElem?_setIfInBounds_ne (by omega)])
  exact ⟨⟨lv, hg⟩, hfz _, hgF, FF, hoF, hnF, hFF⟩

/-- a slice in a field of element i, handed to a callee that writes it -/
theorem own_callf {f : Nat} {get : α → β} {put : α → β → α} (L : Lens α β f get put) {F : List Nat} {g n cap : Nat} {xs : List α} (h : own F w [.slice (some ⟨g, 0, none⟩) n cap] xs) (hn : F.Nodup) {i : Nat} (hi : i < xs.length) :
    ∃ Fl lv, w.cell? ⟨g, i * Rep.sz α + f, none⟩ = some lv ∧ own Fl w [lv] (get xs[i]) ∧ Fl.Nodup ∧ (∀ b, b ∈ Fl → b ∈ F) ∧
      ∀ (w' : World) (y : β), Still Fl w w' [lv] y → Still F w w' [.slice (some ⟨g, 0, none⟩) n cap] (xs.set i (put xs[i] y)) := by
  obtain ⟨ce, Fi, hoi, hsub, hnFi, hgFi, hgF, hcells, hfz, hfoc⟩ := own_focus h hn hi
  obtain ⟨hf, hL⟩ := L
  obtain ⟨F1, Fl, F2, lv, hlv, rfl, hol, hput⟩ := hL Fi w ce xs[i] hoi
  obtain ⟨hn1, hn23, hd1⟩ := List.nodup_append.1 hnFi
  obtain ⟨hnl', hn2, hd2⟩ := List.nodup_append.1 hn23
  have hltF : ∀ b, b ∈ F1 ++ (Fl ++ F2) → b < w.heap.size := Own.lt hoi
  have hg : w.cell? ⟨g, i * Rep.sz α + f, none⟩ = some lv := hcells f lv hlv
  have hglt : g < w.heap.size := World.block_lt_of_cell? w _ hg
  refine ⟨Fl, lv, hg, hol, hnl', fun b hb => hsub b (by simp [hb]), fun w' y ⟨Fl', ho', hn', hof, ht⟩ => ?_⟩
  have hkeep : ∀ b, b ∈ F1 ++ F2 → w'.heap[b]? = w.heap[b]? := fun b hbm => by
    have hbF : b ∈ F1 ++ (Fl ++ F2) := by
      rcases List.mem_append.1 hbm with h | h
      · exact List.mem_append.2 (.inl h)
      · exact List.mem_append.2 (.inr (List.mem_append.2 (.inr h)))
    refine ht.rest b (hltF b hbF) fun hbl' => ?_
    rcases List.mem_append.1 hbm with h | h
    · exact hd1 b h b (List.mem_append.2 (.inl hbl')) rfl
    · exact hd2 b hbl' b h rfl
  have hgb : w'.heap[g]? = w.heap[g]? := ht.rest g hglt fun hm => hgFi (by simp [hm])
  have hset : ce.set f lv = ce := by
    apply List.ext_getElem?
    intro j
    by_cases hjf : j = f
    · subst hjf; rw [List.getElem?_set_self (List.getElem?_eq_some_iff.1 hlv).1, hlv]
    · rw [List.getElem?_set_ne (by omega)]
  have hfl' : ∀ b, b ∈ Fl' → b ∉ F1 ∧ b ∉ F2 := fun b hbm => by
    rcases hof b hbm with h | h
    · exact ⟨fun h1 => hd1 b h1 b (List.mem_append.2 (.inl h)) rfl, fun h1 => hd2 b h b h1 rfl⟩
    · exact ⟨fun h1 => by have := hltF b (List.mem_append.2 (.inl h1)); omega, fun h1 => by have := hltF b (List.mem_append.2 (.inr (List.mem_append.2 (.inr h1)))); omega⟩
  obtain ⟨FF, hoF, hnF, hFF⟩ := hfoc w' (ce.set f lv) (put xs[i] y) (F1 ++ (Fl' ++ F2)) (hput _ Fl' _ _ hkeep ho')
    (List.nodup_append.2 ⟨hn1, List.nodup_append.2 ⟨hn', hn2, fun a ha b hbb e => (hfl' a ha).2 (e ▸ hbb)⟩, fun a ha b hbb e => by
      subst e
      rcases List.mem_append.1 hbb with h | h
      · exact (hfl' a h).1 ha
      · exact hd1 a ha a (List.mem_append.2 (.inr h)) rfl⟩)
    (fun b hbm => by
      rcases List.mem_append.1 hbm with h | h
      · exact .inl (List.mem_append.2 (.inl h))
      · rcases List.mem_append.1 h with h | h
        · rcases hof b h with h | h
          · exact .inl (List.mem_append.2 (.inr (List.mem_append.2 (.inl h))))
          · exact .inr h
        · exact .inl (List.mem_append.2 (.inr (List.mem_append.2 (.inr h)))))
    (fun b hbl2 hbF _ => ht.rest b hbl2 fun e => hbF (List.mem_append.2 (.inr (List.mem_append.2 (.inl e)))))
    (fun cur e hgc => by
      refine ⟨cur, hgb.trans hgc, rfl, fun j hj => ?_, fun j _ => rfl⟩
      rw [hset]
      have hlce : ce.length = Rep.sz α := Rep.len (Own.rd_of hoi)
      have hjc : ce[j]? = some (ce[j]'(by omega)) := List.getElem?_eq_getElem _
      have := hcells j _ hjc
      rw [cell_of_row w g _ cur e (0, 0) hgc] at this
      rw [this, hjc])
  exact ⟨FF, hoF, hnF, hFF, ⟨ht.os, ht.tape, ht.output, ht.size, fun b hbl2 hbF => ht.rest b hbl2 fun hm => hbF (hsub b (by simp [hm]))⟩⟩
end

/-- a value of one cell is its own only field -/
theorem lens_self {β : Type} [Own β] (hz : Rep.sz β = 1) : Lens β β 0 id (fun _ y => y) := by
  refine ⟨by omega, fun F w c x h => ?_⟩
  have hl : c.length = 1 := by rw [Rep.len (Own.rd_of h), hz]
  obtain ⟨v, rfl⟩ : ∃ v, c = [v] := by
    match c, hl with
    | [v], _ => exact ⟨v, rfl⟩
  exact ⟨[], F, [], v, rfl, by simp, h, fun w' Fl' lv' y _ hy => by simpa using hy⟩
theorem lens_delta_fr [Tid ByteArray] : Lens Delta Int 0 (·.fr) (fun d y => ⟨y, d.many, d.lines⟩) := by
  refine ⟨show 0 < 3 by omega, ?_⟩
  rintro F w c x ⟨_, _, _, F2, rfl, rfl, ⟨rfl, rfl, h1⟩, h2⟩
  refine ⟨[], [], F2, _, rfl, rfl, ⟨rfl, rfl, h1⟩, fun w' Fl' lv' y hk hy => ?_⟩
  obtain rfl := Leaf.none hy
  exact ⟨_, _, [], F2, rfl, rfl, hy, Own.oframe (fun b hb => hk b (by simpa using hb)) h2⟩
theorem lens_delta_many [Tid ByteArray] : Lens Delta Int 1 (·.many) (fun d y => ⟨d.fr, y, d.lines⟩) := by
  refine ⟨show 1 < 3 by omega, ?_⟩
  rintro F w c x ⟨_, _, _, F2, rfl, rfl, ⟨rfl, rfl, h1⟩, _, _, _, F3, rfl, rfl, ⟨rfl, rfl, h2⟩, h3⟩
  refine ⟨[], [], F3, _, rfl, rfl, ⟨rfl, rfl, h2⟩, fun w' Fl' lv' y hk hy => ?_⟩
  obtain rfl := Leaf.none hy
  exact ⟨[_], _, [], F3, rfl, rfl, ⟨rfl, rfl, h1⟩, _, _, [], F3, rfl, rfl, hy, Own.oframe (fun b hb => hk b (by simpa using hb)) h3⟩

/-- a row written from the front -/
def over {α : Type} (ys xs : List α) (k : Nat) : List α := ys.take k ++ xs.drop k
theorem over_len {α : Type} (ys xs : List α) (k : Nat) (hl : ys.length = xs.length) (hk : k ≤ xs.length) : (over ys xs k).length = xs.length := by simp [over]; omega
theorem over_all {α : Type} (ys xs : List α) (k : Nat) (hl : ys.length = xs.length) (h : ¬ k < xs.length) : over ys xs k = ys := by
  rw [over, List.drop_eq_nil_of_le (by omega), List.append_nil, List.take_of_length_le (by omega)]
theorem over_at {α : Type} (ys xs : List α) (k : Nat) (hl : ys.length = xs.length) (hk : k < xs.length) (h : k < (over ys xs k).length) : (over ys xs k)[k] = xs[k] := by
  have e : (over ys xs k)[k]? = xs[k]? := by
    unfold over
    rw [List.getElem?_append_right (by simp; omega)]
    have : (ys.take k).length = k := by simp; omega
    rw [this, Nat.sub_self, List.getElem?_drop, Nat.add_zero]
  rw [List.getElem?_eq_getElem h, List.getElem?_eq_getElem hk] at e
  exact Option.some.inj e
theorem over_next {α : Type} (ys xs : List α) (k : Nat) (hl : ys.length = xs.length) (hk : k < xs.length) : (over ys xs k).set k (ys[k]'(by omega)) = over ys xs (k + 1) := by
  have hlk : (ys.take k).length = k := by simp; omega
  unfold over
  rw [drop_cons xs k hk, List.set_append_right _ _ (by omega), hlk, Nat.sub_self, List.set_cons_zero, List.take_succ_eq_append_getElem (by omega), List.append_assoc]
  rfl

section
variable {w : World} {α β : Type} [Own α] [Tid α] [Own β]
theorem own_setf' [Leaf β] {f : Nat} {get : α → β} {put : α → β → α} (L : Lens α β f get put) {F : List Nat} {g n cap : Nat} {xs : List α} (h : own F w [.slice (some ⟨g, 0, none⟩) n cap] xs) (hn : F.Nodup) {i : Nat} {x : α} (hx : xs[i]? = some x)
    {u : Value} {y : β} (hy : ∀ w', own [] w' [u] y) :
    (∃ u', w.cell? ⟨g, i * Rep.sz α + f, none⟩ = some u') ∧ w.frozen? ⟨g, i * Rep.sz α + f, none⟩ = false ∧ g ∈ F ∧
      ∃ F', own F' (w.setCell ⟨g, i * Rep.sz α + f, none⟩ u) [.slice (some ⟨g, 0, none⟩) n cap] (xs.set i (put x y)) ∧ F'.Nodup ∧ Of w F F' := by
  obtain ⟨hi, rfl⟩ := List.getElem?_eq_some_iff.1 hx
  exact own_setf L h hn hi hy
theorem own_callf' {f : Nat} {get : α → β} {put : α → β → α} (L : Lens α β f get put) {F : List Nat} {g n cap : Nat} {xs : List α} (h : own F w [.slice (some ⟨g, 0, none⟩) n cap] xs) (hn : F.Nodup) {i : Nat} {x : α} (hx : xs[i]? = some x) :
    ∃ Fl lv, w.cell? ⟨g, i * Rep.sz α + f, none⟩ = some lv ∧ own Fl w [lv] (get x) ∧ Fl.Nodup ∧ (∀ b, b ∈ Fl → b ∈ F) ∧
      ∀ (w' : World) (y : β), Still Fl w w' [lv] y → Still F w w' [.slice (some ⟨g, 0, none⟩) n cap] (xs.set i (put x y)) := by
  obtain ⟨hi, rfl⟩ := List.getElem?_eq_some_iff.1 hx
  exact own_callf L h hn hi
end
theorem Still.step {α : Type} [Own α] {F F1 : List Nat} {w w1 w2 : World} {vs : List Value} {x : α} (hof : Of w F F1) (ht : TouchF F w w1) (h : Still F1 w1 w2 vs x) : Still F w w2 vs x := by
  obtain ⟨F', ho, hn, hof', ht'⟩ := h
  exact ⟨F', ho, hn, hof.trans hof' ht.size, ht.trans ht' hof⟩
theorem over_at' {α : Type} (ys xs : List α) (k : Nat) (hl : ys.length = xs.length) (hk : k < xs.length) : (over ys xs k)[k]? = some xs[k] := by
  have h : k < (over ys xs k).length := by rw [over_len _ _ _ hl (by omega)]; exact hk
  rw [List.getElem?_eq_getElem h, over_at ys xs k hl hk h]

/-- marks of a slice's elements, one behind the other -/
def marksL {α : Type} (mk : Int → α → α) (c : α → Nat) : Int → List α → List α
  | _, [] => []
  | k, x :: r => mk k x :: marksL mk c (k + c x) r
theorem marksL_len {α : Type} (mk : Int → α → α) (c : α → Nat) : ∀ (xs : List α) (k : Int), (marksL mk c k xs).length = xs.length
  | [], _ => rfl
  | x :: r, k => by simp [marksL, marksL_len mk c r]
theorem bsum_take {α : Type} (c : α → Nat) (xs : List α) (j : Nat) (h : j < xs.length) : bsum c (xs.take (j + 1)) = bsum c (xs.take j) + c xs[j] := by
  rw [List.take_succ_eq_append_getElem h, bsum, List.map_append, List.sum_append, List.map_cons, List.map_nil, List.sum_cons, List.sum_nil, Nat.add_zero]
  rfl
theorem bsum_take_le {α : Type} (c : α → Nat) : ∀ (xs : List α) (j : Nat), bsum c (xs.take j) ≤ bsum c xs
  | [], _ => by simp [bsum]
  | _ :: _, 0 => by simp [bsum]
  | x :: r, j + 1 => by
    have := bsum_take_le c r j
    rw [List.take_succ_cons, bsum_cons, bsum_cons]; omega
theorem marksL_at {α : Type} (mk : Int → α → α) (c : α → Nat) : ∀ (xs : List α) (k : Int) (j : Nat) (h : j < xs.length) (h' : j < (marksL mk c k xs).length), (marksL mk c k xs)[j] = mk (k + bsum c (xs.take j)) xs[j]
  | x :: r, k, 0, _, _ => by simp [marksL, bsum]
  | x :: r, k, j + 1, h, h' => by
    have := marksL_at mk c r (k + c x) j (by simpa using h) (by simpa [marksL] using h')
    simp only [marksL, List.getElem_cons_succ, List.take_succ_cons, bsum_cons]
    rw [this]
    congr 1
    omega
theorem marksL_next {α : Type} (mk : Int → α → α) (c : α → Nat) (xs : List α) (k : Int) (j : Nat) (h : j < xs.length) : (over (marksL mk c k xs) xs j).set j (mk (k + bsum c (xs.take j)) xs[j]) = over (marksL mk c k xs) xs (j + 1) := by
  rw [← over_next (marksL mk c k xs) xs j (marksL_len mk c xs k) h, marksL_at mk c xs k j h]
end Go.Vc
namespace Go.Vc
open Go.RowKit
open Rep (rd)
open Own (own)

theorem sub_eq {l : Int} {n : Nat} (h : (n : Int) ≤ l) : sub l n = l - n := by unfold sub; rw [if_neg (by omega)]
theorem sub_lt {l : Int} {n : Nat} (h : l < (n : Int)) : sub l n = -1 := by unfold sub; rw [if_pos h]
theorem sub_facts {l : Int} {n : Nat} (hl : 0 ≤ l) (h : ¬ sub l n < 0) : sub l n = l - n ∧ 0 ≤ sub l n ∧ sub l n ≤ l := by
  have := sub_pos (show 0 ≤ sub l n by omega)
  omega
theorem sub_facts' {l : Int} {n : Nat} (hl : 0 ≤ l) (h : sub l n < 0) : l < (n : Int) := by
  have := sub_neg h hl
  omega

section
variable {α β γ : Type} [Own α] [Own β] [Own γ]
theorem Lens.fst {f : Nat} {get : α → γ} {put : α → γ → α} (L : Lens α γ f get put) : Lens (α × β) γ f (fun p => get p.1) (fun p y => (put p.1 y, p.2)) := by
  refine ⟨show f < Rep.sz α + Rep.sz β by have := L.1; omega, ?_⟩
  rintro F w c ⟨x, z⟩ ⟨v1, v2, F1, F2, rfl, rfl, h1, h2⟩
  obtain ⟨A, Fl, B, lv, hlv, rfl, hol, hput⟩ := L.2 F1 w v1 x h1
  have hf : f < v1.length := by rw [Rep.len (Own.rd_of h1)]; exact L.1
  refine ⟨A, Fl, B ++ F2, lv, by rw [List.getElem?_append_left hf]; exact hlv, by simp, hol, fun w' Fl' lv' y hk hy => ?_⟩
  rw [List.set_append_left _ _ hf]
  refine ⟨v1.set f lv', v2, A ++ (Fl' ++ B), F2, rfl, by simp, hput w' Fl' lv' y (fun b hb => hk b (by rcases List.mem_append.1 hb with h | h <;> simp [h])) hy, Own.oframe (fun b hb => hk b (by simp [hb])) h2⟩
theorem Lens.snd {f : Nat} {get : β → γ} {put : β → γ → β} (L : Lens β γ f get put) : Lens (α × β) γ (Rep.sz α + f) (fun p => get p.2) (fun p y => (p.1, put p.2 y)) := by
  refine ⟨show Rep.sz α + f < Rep.sz α + Rep.sz β by have := L.1; omega, ?_⟩
  rintro F w c ⟨x, z⟩ ⟨v1, v2, F1, F2, rfl, rfl, h1, h2⟩
  obtain ⟨A, Fl, B, lv, hlv, rfl, hol, hput⟩ := L.2 F2 w v2 z h2
  have hl : v1.length = Rep.sz α := Rep.len (Own.rd_of h1)
  have hz : Rep.sz α + f - v1.length = f := by omega
  refine ⟨F1 ++ A, Fl, B, lv, by rw [List.getElem?_append_right (by omega), hz]; exact hlv, by simp, hol, fun w' Fl' lv' y hk hy => ?_⟩
  rw [List.set_append_right _ _ (by omega), hz]
  refine ⟨v1, v2.set f lv', F1, A ++ (Fl' ++ B), rfl, by simp, Own.oframe (fun b hb => hk b (by simp [hb])) h1, hput w' Fl' lv' y (fun b hb => hk b (by rcases List.mem_append.1 hb with h | h <;> simp [h])) hy⟩
theorem Fresh.cat {B m m' : Nat} {w : World} {vs us : List Value} {x : α} {y : β} (h : Fresh B m w vs x) (k : Fresh m m' w us y) (hB : B ≤ m) (hm : m ≤ m') : Fresh B m' w (vs ++ us) (x, y) := by
  obtain ⟨F, ho, hn, hb⟩ := h
  obtain ⟨G, ko, kn, kb⟩ := k
  refine ⟨F ++ G, ⟨vs, us, F, G, rfl, rfl, ho, ko⟩, List.nodup_append.2 ⟨hn, kn, fun a ha b hbb e => by have := hb a ha; have := kb b hbb; omega⟩, fun b hm => ?_⟩
  rcases List.mem_append.1 hm with h | h
  · have := hb b h; omega
  · have := kb b h; omega
theorem Fresh.consL {B m : Nat} {w : World} {vs us : List Value} {x : α} {y : β} (h : own [] w vs x) (k : Fresh B m w us y) : Fresh B m w (vs ++ us) (x, y) := by
  obtain ⟨G, ko, kn, kb⟩ := k
  exact ⟨G, ⟨vs, us, [], G, rfl, rfl, h, ko⟩, kn, kb⟩
theorem Fresh.snocL {B m : Nat} {w : World} {vs us : List Value} {x : α} {y : β} (h : Fresh B m w vs x) (k : own [] w us y) : Fresh B m w (vs ++ us) (x, y) := by
  obtain ⟨G, ko, kn, kb⟩ := h
  exact ⟨G, ⟨vs, us, G, [], rfl, by simp, ko, k⟩, kn, kb⟩
theorem Fresh.int {B m : Nat} {w : World} {n : Int} (h : I64 n) : Fresh B m w [.int .i64 n] n := Fresh.leaf ⟨rfl, rfl, h⟩
theorem Fresh.str {B m : Nat} {w : World} {s : ByteArray} (h : s.size ≤ maxLen) : Fresh B m w [.string s] s := Fresh.leaf ⟨rfl, rfl, h⟩
theorem Fresh.bool {B m : Nat} {w : World} {s : Bool} : Fresh B m w [.bool s] s := Fresh.leaf ⟨rfl, rfl⟩
end
section
variable {w w1 : World} {α β : Type} [Own α] [Tid α] [Own β]
theorem Still.setf [Leaf β] {f : Nat} {get : α → β} {put : α → β → α} (L : Lens α β f get put) {F : List Nat} {g n cap : Nat} {xs : List α} (h : Still F w w1 [.slice (some ⟨g, 0, none⟩) n cap] xs) {i : Nat} {x : α} (hx : xs[i]? = some x)
    {u : Value} {y : β} (hy : ∀ w', own [] w' [u] y) :
    (∃ u', w1.cell? ⟨g, i * Rep.sz α + f, none⟩ = some u') ∧ w1.frozen? ⟨g, i * Rep.sz α + f, none⟩ = false ∧ Still F w (w1.setCell ⟨g, i * Rep.sz α + f, none⟩ u) [.slice (some ⟨g, 0, none⟩) n cap] (xs.set i (put x y)) := by
  obtain ⟨F', ho, hn, hof, ht⟩ := h
  obtain ⟨h1, h2, hg, F2, ho2, hn2, hof2⟩ := own_setf' L ho hn hx hy
  exact ⟨h1, h2, F2, ho2, hn2, hof.trans hof2 ht.size, ht.setCell (hof g hg) _⟩
theorem Still.callf {f : Nat} {get : α → β} {put : α → β → α} (L : Lens α β f get put) {F : List Nat} {g n cap : Nat} {xs : List α} (h : Still F w w1 [.slice (some ⟨g, 0, none⟩) n cap] xs) {i : Nat} {x : α} (hx : xs[i]? = some x) :
    ∃ Fl lv, w1.cell? ⟨g, i * Rep.sz α + f, none⟩ = some lv ∧ own Fl w1 [lv] (get x) ∧ Fl.Nodup ∧
      ∀ (w' : World) (y : β), Still Fl w1 w' [lv] y → Still F w w' [.slice (some ⟨g, 0, none⟩) n cap] (xs.set i (put x y)) := by
  obtain ⟨F', ho, hn, hof, ht⟩ := h
  obtain ⟨Fl, lv, h1, h2, h3, _, h5⟩ := own_callf' L ho hn hx
  exact ⟨Fl, lv, h1, h2, h3, fun w' y hS => Still.step hof ht (h5 w' y hS)⟩
theorem Still.addr {F : List Nat} {a : Option Addr} {n cap : Nat} {xs : List α} (h : Still F w w1 [.slice a n cap] xs) (hx : 0 < xs.length) : ∃ g, a = some ⟨g, 0, none⟩ := by
  obtain ⟨F', ho, _⟩ := h
  obtain ⟨g, hg, _⟩ := own_addr ho hx
  exact ⟨g, hg⟩
end
section
variable {P : Program} {t : TypeId}
theorem opn_struct4 {σ α β γ δ : Type} [Rep α] [Rep β] [Rep γ] [Rep δ] {f0 f1 f2 f3 : Field} (mk : α → β → γ → δ → σ) [Rep σ]
    (hmk : ∀ (w : World) (v0 v1 v2 v3 : List Value) (x : α) (y : β) (z : γ) (u : δ), rd (fun _ => True) w v0 x → rd (fun _ => True) w v1 y → rd (fun _ => True) w v2 z → rd (fun _ => True) w v3 u → rd (fun _ => True) w (v0 ++ (v1 ++ (v2 ++ v3))) (mk x y z u))
    (ht : P.underlying t = some (.struct #[f0, f1, f2, f3])) (h0 : Opn P f0.type α) (h1 : Opn P f1.type β) (h2 : Opn P f2.type γ) (h3 : Opn P f3.type δ)
    (hc0 : P.cellsOf f0.type = Rep.sz α) (hc1 : P.cellsOf f1.type = Rep.sz β) (hc2 : P.cellsOf f2.type = Rep.sz γ) (hc3 : P.cellsOf f3.type = Rep.sz δ)
    (ho0 : f0.offset = 0) (ho1 : f1.offset = Rep.sz α) (ho2 : f2.offset = Rep.sz α + Rep.sz β) (ho3 : f3.offset = Rep.sz α + Rep.sz β + Rep.sz γ) (hct : P.cellsOf t = Rep.sz α + Rep.sz β + Rep.sz γ + Rep.sz δ) : Opn P t σ := by
  intro H enc w spare held fuel cs x h
  obtain ⟨xs, n, _, _, hl, hlen, hf⟩ := DataW.trod_struct ht h
  obtain ⟨y0, y1, y2, y3, rfl⟩ : ∃ y0 y1 y2 y3, xs = [y0, y1, y2, y3] := by
    match xs, hlen with
    | [y0, y1, y2, y3], _ => exact ⟨y0, y1, y2, y3, rfl⟩
  have g0 := hf 0 f0 rfl
  have g1 := hf 1 f1 rfl
  have g2 := hf 2 f2 rfl
  have g3 := hf 3 f3 rfl
  rw [ho0, hc0] at g0
  rw [ho1, hc1] at g1
  rw [ho2, hc2] at g2
  rw [ho3, hc3] at g3
  obtain ⟨x0, r0⟩ := h0 H enc w spare held n _ _ g0
  obtain ⟨x1, r1⟩ := h1 H enc w spare held n _ _ g1
  obtain ⟨x2, r2⟩ := h2 H enc w spare held n _ _ g2
  obtain ⟨x3, r3⟩ := h3 H enc w spare held n _ _ g3
  refine ⟨mk x0 x1 x2 x3, ?_⟩
  have := hmk w _ _ _ _ x0 x1 x2 x3 r0 r1 r2 r3
  have e : cs = (cs.drop 0).take (Rep.sz α) ++ ((cs.drop (Rep.sz α)).take (Rep.sz β) ++ ((cs.drop (Rep.sz α + Rep.sz β)).take (Rep.sz γ) ++ (cs.drop (Rep.sz α + Rep.sz β + Rep.sz γ)).take (Rep.sz δ))) := by
    rw [List.take_of_length_le (l := List.drop (Rep.sz α + Rep.sz β + Rep.sz γ) cs) (by simp; omega)]
    rw [← List.drop_drop (j := Rep.sz α + Rep.sz β), List.take_append_drop, ← List.drop_drop (j := Rep.sz α), List.take_append_drop, List.drop_zero, List.take_append_drop]
  rw [e]
  exact this
end
end Go.Vc
