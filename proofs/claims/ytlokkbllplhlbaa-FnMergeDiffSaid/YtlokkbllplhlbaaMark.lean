/-
  Own data written in place: which blocks are touched. No program is in sight here.
-/
import Derived.Test.YtlokkbllplhlbaaOwn4
namespace Go.Vc
open Go.RowKit
open Rep (rd)
open Own (own)

/-- w' is w with more memory, and with writes to the blocks of F alone -/
structure TouchF (F : List Nat) (w w' : World) : Prop where
  os : w'.os = w.os
  tape : w'.tape = w.tape
  output : w'.output = w.output
  size : w.heap.size ≤ w'.heap.size
  rest : ∀ b, b < w.heap.size → b ∉ F → w'.heap[b]? = w.heap[b]?
theorem TouchF.refl (F : List Nat) (w : World) : TouchF F w w := ⟨rfl, rfl, rfl, Nat.le_refl _, fun _ _ _ => rfl⟩
theorem TouchF.trans {F G : List Nat} {a b c : World} (h : TouchF F a b) (k : TouchF G b c) (hG : ∀ x, x ∈ G → x ∈ F ∨ a.heap.size ≤ x) : TouchF F a c :=
  ⟨k.os.trans h.os, k.tape.trans h.tape, k.output.trans h.output, Nat.le_trans h.size k.size, fun x hx hxF =>
    (k.rest x (Nat.lt_of_lt_of_le hx h.size) fun hg => by rcases hG x hg with h1 | h1; exact hxF h1; omega).trans (h.rest x hx hxF)⟩
theorem TouchF.below {F : List Nat} {w w' : World} {B : Nat} (h : TouchF F w w') (hB : B ≤ w.heap.size) (hF : ∀ b, b ∈ F → B ≤ b) : Below B w w' :=
  ⟨h.os, h.tape, h.output, h.size, fun k hk => h.rest k (by omega) fun hm => by have := hF k hm; omega⟩
theorem TouchF.of_below {F : List Nat} {w w' : World} (h : Below w.heap.size w w') : TouchF F w w' := ⟨h.os, h.tape, h.output, h.size, fun b hb _ => h.block b hb⟩
theorem TouchF.setCell {F : List Nat} {a w : World} (h : TouchF F a w) {p : Addr} (hp : p.block ∈ F ∨ a.heap.size ≤ p.block) (u : Value) : TouchF F a (w.setCell p u) :=
  h.trans (G := [p.block]) ⟨rfl, rfl, rfl, by simp [World.setCell], fun b _ hb => Below.heap_setCell w p u b (by simpa using hb)⟩ (by simpa using hp)

/-- F' is of F, and of what was made behind w -/
def Of (w : World) (F F' : List Nat) : Prop := ∀ b, b ∈ F' → b ∈ F ∨ w.heap.size ≤ b
theorem Of.refl (w : World) (F : List Nat) : Of w F F := fun _ h => .inl h
theorem Of.trans {a b : World} {F G K : List Nat} (h : Of a F G) (k : Of b G K) (hs : a.heap.size ≤ b.heap.size) : Of a F K := fun x hx => by
  rcases k x hx with h1 | h1
  · exact h x h1
  · exact .inr (by omega)

/-- own data, some of its blocks new since w -/
def Still {α : Type} [Own α] (F : List Nat) (w w' : World) (vs : List Value) (x : α) : Prop := ∃ F', own F' w' vs x ∧ F'.Nodup ∧ Of w F F' ∧ TouchF F w w'
theorem Still.start {α : Type} [Own α] {F : List Nat} {w : World} {vs : List Value} {x : α} (h : own F w vs x) (hn : F.Nodup) : Still F w w vs x := ⟨F, h, hn, Of.refl _ _, TouchF.refl _ _⟩
theorem Still.touch {α : Type} [Own α] {F : List Nat} {w w' : World} {vs : List Value} {x : α} (h : Still F w w' vs x) : TouchF F w w' := let ⟨_, _, _, _, h⟩ := h; h
theorem Still.below {α : Type} [Own α] {F : List Nat} {w w' w2 : World} {vs : List Value} {x : α} (h : Still F w w' vs x) (hb : Below w'.heap.size w' w2) : Still F w w2 vs x := by
  obtain ⟨F', ho, hn, hof, ht⟩ := h
  exact ⟨F', Own.oframe (fun b hm => hb.block b (Own.lt ho b hm)) ho, hn, hof, ht.trans (TouchF.of_below (F := []) hb) (fun _ hx => by cases hx)⟩
theorem Still.rd {α : Type} [Own α] {F : List Nat} {w w' : World} {vs : List Value} {x : α} (h : Still F w w' vs x) : Rep.rd (fun _ => True) w' vs x := by
  obtain ⟨F', ho, _⟩ := h
  exact Rep.mono (fun _ _ => trivial) (Own.rd_of ho)

section
variable {w : World} {α β : Type} [Own α] [Tid α] [Own β]
theorem own_addr {F : List Nat} {a : Option Addr} {n cap : Nat} {xs : List α} (h : own F w [.slice a n cap] xs) (hx : 0 < xs.length) : ∃ g, a = some ⟨g, 0, none⟩ ∧ g ∈ F := by
  obtain ⟨v, cs, Fs, hv, hrow, rfl, _⟩ := h
  simp at hv
  subst hv
  rcases hrow.2 with ⟨hh, hn⟩ | ⟨g, cap', cur, hh, _⟩
  · omega
  · simp only [Value.slice.injEq] at hh
    obtain ⟨rfl, _, _⟩ := hh
    exact ⟨g, rfl, by simp [Value.ownBlock]⟩

/-- a field of element i written -/
theorem own_setf [Leaf β] {f : Nat} {get : α → β} {put : α → β → α} (L : Lens α β f get put) {F : List Nat} {g n cap : Nat} {xs : List α} (h : own F w [.slice (some ⟨g, 0, none⟩) n cap] xs) (hn : F.Nodup) {i : Nat} (hi : i < xs.length)
    {u : Value} {y : β} (hy : ∀ w', own [] w' [u] y) :
    (∃ u', w.cell? ⟨g, i * Rep.sz α + f, none⟩ = some u') ∧ w.frozen? ⟨g, i * Rep.sz α + f, none⟩ = false ∧ g ∈ F ∧
      ∃ F', own F' (w.setCell ⟨g, i * Rep.sz α + f, none⟩ u) [.slice (some ⟨g, 0, none⟩) n cap] (xs.set i (put xs[i] y)) ∧ F'.Nodup ∧ Of w F F' := by
  obtain ⟨ce, Fi, hoi, hsub, hnFi, hgFi, hgF, hcells, hfz, hfoc⟩ := own_focus h hn hi
  obtain ⟨hf, hL⟩ := L
  obtain ⟨F1, Fl, F2, lv, hlv, rfl, hol, hput⟩ := hL Fi w ce xs[i] hoi
  have hFl : Fl = [] := Leaf.none hol
  subst hFl
  have hg : w.cell? ⟨g, i * Rep.sz α + f, none⟩ = some lv := hcells f lv hlv
  have hlce : ce.length = Rep.sz α := Rep.len (Own.rd_of hoi)
  obtain ⟨FF, hoF, hnF, hFF⟩ := hfoc (w.setCell ⟨g, i * Rep.sz α + f, none⟩ u) (ce.set f u) (put xs[i] y) (F1 ++ ([] ++ F2)) (hput _ [] _ _ (fun b hb => Below.heap_setCell w _ _ b fun e => hgFi (by simp only at e; rw [← e]; simpa using hb)) (hy _)) hnFi (fun b hb => .inl hb)
    (fun b _ _ hbg => Below.heap_setCell w _ _ b hbg) (fun cur e hgc => by
      refine ⟨_, heap_setCell_same w g _ cur e _ hgc, by simp, fun j hj => ?_, fun j hj => ?_⟩
      · by_cases hjf : j = f
        · subst hjf
          have hlt : i * Rep.sz α + j < cur.size := by
            have := hg
            rw [cell_of_row w g _ cur e (0, 0) hgc] at this
            exact (Array.getElem?_eq_some_iff.1 this).1
          rw [Array.getElem?_setIfInBounds_self_of_lt hlt, List.getElem?_set_self (by omega)]
        · rw [Array.getElem?_setIfInBounds_ne (by omega), List.getElem?_set_ne (by omega)]
          have hjc : ce[j]? = some (ce[j]'(by omega)) := List.getElem?_eq_getElem _
          have := hcells j _ hjc
          rw [cell_of_row w g _ cur e (0, 0) hgc] at this
          rw [this, hjc]
      · rw [Array.getElem?_setIfInBounds_ne (by omega)])
  exact ⟨⟨lv, hg⟩, hfz _, hgF, FF, hoF, hnF, hFF⟩

/-- a slice in a field of element i, handed to a callee that writes it -/
theorem own_callf {f : Nat} {get : α → β} {put : α → β → α} (L : Lens α β f get put) {F : List Nat} {g n cap : Nat} {xs : List α} (h : own F w [.slice (some ⟨g, 0, none⟩) n cap] xs) (hn : F.Nodup) {i : Nat} (hi : i < xs.length) :
    ∃ Fl lv, w.cell? ⟨g, i * Rep.sz α + f, none⟩ = some lv ∧ own Fl w [lv] (get xs[i]) ∧ Fl.Nodup ∧ (∀ b, b ∈ Fl → b ∈ F) ∧
      ∀ (w' : World) (y : β), Still Fl w w' [lv] y → Still F w w' [.slice (some ⟨g, 0, none⟩) n cap] (xs.set i (put xs[i] y)) := by
  obtain ⟨ce, Fi, hoi, hsub, hnFi, hgFi, hgF, hcells, hfz, hfoc⟩ := own_focus h hn hi
  obtain ⟨hf, hL⟩ := L
  obtain ⟨F1, Fl, F2, lv, hlv, rfl, hol, hput⟩ := hL Fi w ce xs[i] hoi
  obtain ⟨hn1, hn23, hd1⟩ := List.nodup_append.1 hnFi
  obtain ⟨hnl', hn2, hd2⟩ := List.nodup_append.1 hn23
  have hltF : ∀ b, b ∈ F1 ++ (Fl ++ F2) → b < w.heap.size := Own.lt hoi
  have hg : w.cell? ⟨g, i * Rep.sz α + f, none⟩ = some lv := hcells f lv hlv
  have hglt : g < w.heap.size := World.block_lt_of_cell? w _ hg
  refine ⟨Fl, lv, hg, hol, hnl', fun b hb => hsub b (by simp [hb]), fun w' y ⟨Fl', ho', hn', hof, ht⟩ => ?_⟩
  have hkeep : ∀ b, b ∈ F1 ++ F2 → w'.heap[b]? = w.heap[b]? := fun b hbm => by
    have hbF : b ∈ F1 ++ (Fl ++ F2) := by
      rcases List.mem_append.1 hbm with h | h
      · exact List.mem_append.2 (.inl h)
      · exact List.mem_append.2 (.inr (List.mem_append.2 (.inr h)))
    refine ht.rest b (hltF b hbF) fun hbl' => ?_
    rcases List.mem_append.1 hbm with h | h
    · exact hd1 b h b (List.mem_append.2 (.inl hbl')) rfl
    · exact hd2 b hbl' b h rfl
  have hgb : w'.heap[g]? = w.heap[g]? := ht.rest g hglt fun hm => hgFi (by simp [hm])
  have hset : ce.set f lv = ce := by
    apply List.ext_getElem?
    intro j
    by_cases hjf : j = f
    · subst hjf; rw [List.getElem?_set_self (List.getElem?_eq_some_iff.1 hlv).1, hlv]
    · rw [List.getElem?_set_ne (by omega)]
  have hfl' : ∀ b, b ∈ Fl' → b ∉ F1 ∧ b ∉ F2 := fun b hbm => by
    rcases hof b hbm with h | h
    · exact ⟨fun h1 => hd1 b h1 b (List.mem_append.2 (.inl h)) rfl, fun h1 => hd2 b h b h1 rfl⟩
    · exact ⟨fun h1 => by have := hltF b (List.mem_append.2 (.inl h1)); omega, fun h1 => by have := hltF b (List.mem_append.2 (.inr (List.mem_append.2 (.inr h1)))); omega⟩
  obtain ⟨FF, hoF, hnF, hFF⟩ := hfoc w' (ce.set f lv) (put xs[i] y) (F1 ++ (Fl' ++ F2)) (hput _ Fl' _ _ hkeep ho')
    (List.nodup_append.2 ⟨hn1, List.nodup_append.2 ⟨hn', hn2, fun a ha b hbb e => (hfl' a ha).2 (e ▸ hbb)⟩, fun a ha b hbb e => by
      subst e
      rcases List.mem_append.1 hbb with h | h
      · exact (hfl' a h).1 ha
      · exact hd1 a ha a (List.mem_append.2 (.inr h)) rfl⟩)
    (fun b hbm => by
      rcases List.mem_append.1 hbm with h | h
      · exact .inl (List.mem_append.2 (.inl h))
      · rcases List.mem_append.1 h with h | h
        · rcases hof b h with h | h
          · exact .inl (List.mem_append.2 (.inr (List.mem_append.2 (.inl h))))
          · exact .inr h
        · exact .inl (List.mem_append.2 (.inr (List.mem_append.2 (.inr h)))))
    (fun b hbl2 hbF _ => ht.rest b hbl2 fun e => hbF (List.mem_append.2 (.inr (List.mem_append.2 (.inl e)))))
    (fun cur e hgc => by
      refine ⟨cur, hgb.trans hgc, rfl, fun j hj => ?_, fun j _ => rfl⟩
      rw [hset]
      have hlce : ce.length = Rep.sz α := Rep.len (Own.rd_of hoi)
      have hjc : ce[j]? = some (ce[j]'(by omega)) := List.getElem?_eq_getElem _
      have := hcells j _ hjc
      rw [cell_of_row w g _ cur e (0, 0) hgc] at this
      rw [this, hjc])
  exact ⟨FF, hoF, hnF, hFF, ⟨ht.os, ht.tape, ht.output, ht.size, fun b hbl2 hbF => ht.rest b hbl2 fun hm => hbF (hsub b (by simp [hm]))⟩⟩
end

/-- a value of one cell is its own only field -/
theorem lens_self {β : Type} [Own β] (hz : Rep.sz β = 1) : Lens β β 0 id (fun _ y => y) := by
  refine ⟨by omega, fun F w c x h => ?_⟩
  have hl : c.length = 1 := by rw [Rep.len (Own.rd_of h), hz]
  obtain ⟨v, rfl⟩ : ∃ v, c = [v] := by
    match c, hl with
    | [v], _ => exact ⟨v, rfl⟩
  exact ⟨[], F, [], v, rfl, by simp, h, fun w' Fl' lv' y _ hy => by simpa using hy⟩
theorem lens_delta_fr [Tid ByteArray] : Lens Delta Int 0 (·.fr) (fun d y => ⟨y, d.many, d.lines⟩) := by
  refine ⟨show 0 < 3 by omega, ?_⟩
  rintro F w c x ⟨_, _, _, F2, rfl, rfl, ⟨rfl, rfl, h1⟩, h2⟩
  refine ⟨[], [], F2, _, rfl, rfl, ⟨rfl, rfl, h1⟩, fun w' Fl' lv' y hk hy => ?_⟩
  obtain rfl := Leaf.none hy
  exact ⟨_, _, [], F2, rfl, rfl, hy, Own.oframe (fun b hb => hk b (by simpa using hb)) h2⟩
theorem lens_delta_many [Tid ByteArray] : Lens Delta Int 1 (·.many) (fun d y => ⟨d.fr, y, d.lines⟩) := by
  refine ⟨show 1 < 3 by omega, ?_⟩
  rintro F w c x ⟨_, _, _, F2, rfl, rfl, ⟨rfl, rfl, h1⟩, _, _, _, F3, rfl, rfl, ⟨rfl, rfl, h2⟩, h3⟩
  refine ⟨[], [], F3, _, rfl, rfl, ⟨rfl, rfl, h2⟩, fun w' Fl' lv' y hk hy => ?_⟩
  obtain rfl := Leaf.none hy
  exact ⟨[_], _, [], F3, rfl, rfl, ⟨rfl, rfl, h1⟩, _, _, [], F3, rfl, rfl, hy, Own.oframe (fun b hb => hk b (by simpa using hb)) h3⟩

/-- a row written from the front -/
def over {α : Type} (ys xs : List α) (k : Nat) : List α := ys.take k ++ xs.drop k
theorem over_len {α : Type} (ys xs : List α) (k : Nat) (hl : ys.length = xs.length) (hk : k ≤ xs.length) : (over ys xs k).length = xs.length := by simp [over]; omega
theorem over_all {α : Type} (ys xs : List α) (k : Nat) (hl : ys.length = xs.length) (h : ¬ k < xs.length) : over ys xs k = ys := by
  rw [over, List.drop_eq_nil_of_le (by omega), List.append_nil, List.take_of_length_le (by omega)]
theorem over_at {α : Type} (ys xs : List α) (k : Nat) (hl : ys.length = xs.length) (hk : k < xs.length) (h : k < (over ys xs k).length) : (over ys xs k)[k] = xs[k] := by
  have e : (over ys xs k)[k]? = xs[k]? := by
    unfold over
    rw [List.getElem?_append_right (by simp; omega)]
    have : (ys.take k).length = k := by simp; omega
    rw [this, Nat.sub_self, List.getElem?_drop, Nat.add_zero]
  rw [List.getElem?_eq_getElem h, List.getElem?_eq_getElem hk] at e
  exact Option.some.inj e
theorem over_next {α : Type} (ys xs : List α) (k : Nat) (hl : ys.length = xs.length) (hk : k < xs.length) : (over ys xs k).set k (ys[k]'(by omega)) = over ys xs (k + 1) := by
  have hlk : (ys.take k).length = k := by simp; omega
  unfold over
  rw [drop_cons xs k hk, List.set_append_right _ _ (by omega), hlk, Nat.sub_self, List.set_cons_zero, List.take_succ_eq_append_getElem (by omega), List.append_assoc]
  rfl

section
variable {w : World} {α β : Type} [Own α] [Tid α] [Own β]
theorem own_setf' [Leaf β] {f : Nat} {get : α → β} {put : α → β → α} (L : Lens α β f get put) {F : List Nat} {g n cap : Nat} {xs : List α} (h : own F w [.slice (some ⟨g, 0, none⟩) n cap] xs) (hn : F.Nodup) {i : Nat} {x : α} (hx : xs[i]? = some x)
    {u : Value} {y : β} (hy : ∀ w', own [] w' [u] y) :
    (∃ u', w.cell? ⟨g, i * Rep.sz α + f, none⟩ = some u') ∧ w.frozen? ⟨g, i * Rep.sz α + f, none⟩ = false ∧ g ∈ F ∧
      ∃ F', own F' (w.setCell ⟨g, i * Rep.sz α + f, none⟩ u) [.slice (some ⟨g, 0, none⟩) n cap] (xs.set i (put x y)) ∧ F'.Nodup ∧ Of w F F' := by
  obtain ⟨hi, rfl⟩ := List.getElem?_eq_some_iff.1 hx
  exact own_setf L h hn hi hy
theorem own_callf' {f : Nat} {get : α → β} {put : α → β → α} (L : Lens α β f get put) {F : List Nat} {g n cap : Nat} {xs : List α} (h : own F w [.slice (some ⟨g, 0, none⟩) n cap] xs) (hn : F.Nodup) {i : Nat} {x : α} (hx : xs[i]? = some x) :
    ∃ Fl lv, w.cell? ⟨g, i * Rep.sz α + f, none⟩ = some lv ∧ own Fl w [lv] (get x) ∧ Fl.Nodup ∧ (∀ b, b ∈ Fl → b ∈ F) ∧
      ∀ (w' : World) (y : β), Still Fl w w' [lv] y → Still F w w' [.slice (some ⟨g, 0, none⟩) n cap] (xs.set i (put x y)) := by
  obtain ⟨hi, rfl⟩ := List.getElem?_eq_some_iff.1 hx
  exact own_callf L h hn hi
end
theorem Still.step {α : Type} [Own α] {F F1 : List Nat} {w w1 w2 : World} {vs : List Value} {x : α} (hof : Of w F F1) (ht : TouchF F w w1) (h : Still F1 w1 w2 vs x) : Still F w w2 vs x := by
  obtain ⟨F', ho, hn, hof', ht'⟩ := h
  exact ⟨F', ho, hn, hof.trans hof' ht.size, ht.trans ht' hof⟩
theorem over_at' {α : Type} (ys xs : List α) (k : Nat) (hl : ys.length = xs.length) (hk : k < xs.length) : (over ys xs k)[k]? = some xs[k] := by
  have h : k < (over ys xs k).length := by rw [over_len _ _ _ hl (by omega)]; exact hk
  rw [List.getElem?_eq_getElem h, over_at ys xs k hl hk h]

/-- marks of a slice's elements, one behind the other -/
def marksL {α : Type} (mk : Int → α → α) (c : α → Nat) : Int → List α → List α
  | _, [] => []
  | k, x :: r => mk k x :: marksL mk c (k + c x) r
theorem marksL_len {α : Type} (mk : Int → α → α) (c : α → Nat) : ∀ (xs : List α) (k : Int), (marksL mk c k xs).length = xs.length
  | [], _ => rfl
  | x :: r, k => by simp [marksL, marksL_len mk c r]
theorem bsum_take {α : Type} (c : α → Nat) (xs : List α) (j : Nat) (h : j < xs.length) : bsum c (xs.take (j + 1)) = bsum c (xs.take j) + c xs[j] := by
  rw [List.take_succ_eq_append_getElem h, bsum, List.map_append, List.sum_append, List.map_cons, List.map_nil, List.sum_cons, List.sum_nil, Nat.add_zero]
  rfl
theorem bsum_take_le {α : Type} (c : α → Nat) : ∀ (xs : List α) (j : Nat), bsum c (xs.take j) ≤ bsum c xs
  | [], _ => by simp [bsum]
  | _ :: _, 0 => by simp [bsum]
  | x :: r, j + 1 => by
    have := bsum_take_le c r j
    rw [List.take_succ_cons, bsum_cons, bsum_cons]; omega
theorem marksL_at {α : Type} (mk : Int → α → α) (c : α → Nat) : ∀ (xs : List α) (k : Int) (j : Nat) (h : j < xs.length) (h' : j < (marksL mk c k xs).length), (marksL mk c k xs)[j] = mk (k + bsum c (xs.take j)) xs[j]
  | x :: r, k, 0, _, _ => by simp [marksL, bsum]
  | x :: r, k, j + 1, h, h' => by
    have := marksL_at mk c r (k + c x) j (by simpa using h) (by simpa [marksL] using h')
    simp only [marksL, List.getElem_cons_succ, List.take_succ_cons, bsum_cons]
    rw [this]
    congr 1
    omega
theorem marksL_next {α : Type} (mk : Int → α → α) (c : α → Nat) (xs : List α) (k : Int) (j : Nat) (h : j < xs.length) : (over (marksL mk c k xs) xs j).set j (mk (k + bsum c (xs.take j)) xs[j]) = over (marksL mk c k xs) xs (j + 1) := by
  rw [← over_next (marksL mk c k xs) xs j (marksL_len mk c xs k) h, marksL_at mk c xs k j h]
end Go.Vc
