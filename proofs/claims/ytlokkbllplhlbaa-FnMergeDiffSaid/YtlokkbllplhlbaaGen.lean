/-
  What the printed walks of the laws' helpers lean on (typegen.py). No program is in sight here.
-/
import Derived.Test.YtlokkbllplhlbaaMark
import Derived.Test.YtlokkbllplhlbaaOpen
set_option linter.unusedVariables false
namespace Go.Vc
open Go.RowKit
open Rep (rd)
open Own (own)

theorem sub_eq {l : Int} {n : Nat} (h : (n : Int) ≤ l) : sub l n = l - n := by unfold sub; rw [if_neg (by omega)]
theorem sub_lt {l : Int} {n : Nat} (h : l < (n : Int)) : sub l n = -1 := by unfold sub; rw [if_pos h]
theorem sub_facts {l : Int} {n : Nat} (hl : 0 ≤ l) (h : ¬ sub l n < 0) : sub l n = l - n ∧ 0 ≤ sub l n ∧ sub l n ≤ l := by
  have := sub_pos (show 0 ≤ sub l n by omega)
  omega
theorem sub_facts' {l : Int} {n : Nat} (hl : 0 ≤ l) (h : sub l n < 0) : l < (n : Int) := by
  have := sub_neg h hl
  omega

section
variable {α β γ : Type} [Own α] [Own β] [Own γ]
theorem Lens.fst {f : Nat} {get : α → γ} {put : α → γ → α} (L : Lens α γ f get put) : Lens (α × β) γ f (fun p => get p.1) (fun p y => (put p.1 y, p.2)) := by
  refine ⟨show f < Rep.sz α + Rep.sz β by have := L.1; omega, ?_⟩
  rintro F w c ⟨x, z⟩ ⟨v1, v2, F1, F2, rfl, rfl, h1, h2⟩
  obtain ⟨A, Fl, B, lv, hlv, rfl, hol, hput⟩ := L.2 F1 w v1 x h1
  have hf : f < v1.length := by rw [Rep.len (Own.rd_of h1)]; exact L.1
  refine ⟨A, Fl, B ++ F2, lv, by rw [List.getElem?_append_left hf]; exact hlv, by simp, hol, fun w' Fl' lv' y hk hy => ?_⟩
  rw [List.set_append_left _ _ hf]
  refine ⟨v1.set f lv', v2, A ++ (Fl' ++ B), F2, rfl, by simp, hput w' Fl' lv' y (fun b hb => hk b (by rcases List.mem_append.1 hb with h | h <;> simp [h])) hy, Own.oframe (fun b hb => hk b (by simp [hb])) h2⟩
theorem Lens.snd {f : Nat} {get : β → γ} {put : β → γ → β} (L : Lens β γ f get put) : Lens (α × β) γ (Rep.sz α + f) (fun p => get p.2) (fun p y => (p.1, put p.2 y)) := by
  refine ⟨show Rep.sz α + f < Rep.sz α + Rep.sz β by have := L.1; omega, ?_⟩
  rintro F w c ⟨x, z⟩ ⟨v1, v2, F1, F2, rfl, rfl, h1, h2⟩
  obtain ⟨A, Fl, B, lv, hlv, rfl, hol, hput⟩ := L.2 F2 w v2 z h2
  have hl : v1.length = Rep.sz α := Rep.len (Own.rd_of h1)
  have hz : Rep.sz α + f - v1.length = f := by omega
  refine ⟨F1 ++ A, Fl, B, lv, by rw [List.getElem?_append_right (by omega), hz]; exact hlv, by simp, hol, fun w' Fl' lv' y hk hy => ?_⟩
  rw [List.set_append_right _ _ (by omega), hz]
  refine ⟨v1, v2.set f lv', F1, A ++ (Fl' ++ B), rfl, by simp, Own.oframe (fun b hb => hk b (by simp [hb])) h1, hput w' Fl' lv' y (fun b hb => hk b (by rcases List.mem_append.1 hb with h | h <;> simp [h])) hy⟩
theorem Fresh.cat {B m m' : Nat} {w : World} {vs us : List Value} {x : α} {y : β} (h : Fresh B m w vs x) (k : Fresh m m' w us y) (hB : B ≤ m) (hm : m ≤ m') : Fresh B m' w (vs ++ us) (x, y) := by
  obtain ⟨F, ho, hn, hb⟩ := h
  obtain ⟨G, ko, kn, kb⟩ := k
  refine ⟨F ++ G, ⟨vs, us, F, G, rfl, rfl, ho, ko⟩, List.nodup_append.2 ⟨hn, kn, fun a ha b hbb e => by have := hb a ha; have := kb b hbb; omega⟩, fun b hm => ?_⟩
  rcases List.mem_append.1 hm with h | h
  · have := hb b h; omega
  · have := kb b h; omega
theorem Fresh.consL {B m : Nat} {w : World} {vs us : List Value} {x : α} {y : β} (h : own [] w vs x) (k : Fresh B m w us y) : Fresh B m w (vs ++ us) (x, y) := by
  obtain ⟨G, ko, kn, kb⟩ := k
  exact ⟨G, ⟨vs, us, [], G, rfl, rfl, h, ko⟩, kn, kb⟩
theorem Fresh.snocL {B m : Nat} {w : World} {vs us : List Value} {x : α} {y : β} (h : Fresh B m w vs x) (k : own [] w us y) : Fresh B m w (vs ++ us) (x, y) := by
  obtain ⟨G, ko, kn, kb⟩ := h
  exact ⟨G, ⟨vs, us, G, [], rfl, by simp, ko, k⟩, kn, kb⟩
theorem Fresh.int {B m : Nat} {w : World} {n : Int} (h : I64 n) : Fresh B m w [.int .i64 n] n := Fresh.leaf ⟨rfl, rfl, h⟩
theorem Fresh.str {B m : Nat} {w : World} {s : ByteArray} (h : s.size ≤ maxLen) : Fresh B m w [.string s] s := Fresh.leaf ⟨rfl, rfl, h⟩
theorem Fresh.bool {B m : Nat} {w : World} {s : Bool} : Fresh B m w [.bool s] s := Fresh.leaf ⟨rfl, rfl⟩
end
section
variable {w w1 : World} {α β : Type} [Own α] [Tid α] [Own β]
theorem Still.setf [Leaf β] {f : Nat} {get : α → β} {put : α → β → α} (L : Lens α β f get put) {F : List Nat} {g n cap : Nat} {xs : List α} (h : Still F w w1 [.slice (some ⟨g, 0, none⟩) n cap] xs) {i : Nat} {x : α} (hx : xs[i]? = some x)
    {u : Value} {y : β} (hy : ∀ w', own [] w' [u] y) :
    (∃ u', w1.cell? ⟨g, i * Rep.sz α + f, none⟩ = some u') ∧ w1.frozen? ⟨g, i * Rep.sz α + f, none⟩ = false ∧ Still F w (w1.setCell ⟨g, i * Rep.sz α + f, none⟩ u) [.slice (some ⟨g, 0, none⟩) n cap] (xs.set i (put x y)) := by
  obtain ⟨F', ho, hn, hof, ht⟩ := h
  obtain ⟨h1, h2, hg, F2, ho2, hn2, hof2⟩ := own_setf' L ho hn hx hy
  exact ⟨h1, h2, F2, ho2, hn2, hof.trans hof2 ht.size, ht.setCell (hof g hg) _⟩
theorem Still.callf {f : Nat} {get : α → β} {put : α → β → α} (L : Lens α β f get put) {F : List Nat} {g n cap : Nat} {xs : List α} (h : Still F w w1 [.slice (some ⟨g, 0, none⟩) n cap] xs) {i : Nat} {x : α} (hx : xs[i]? = some x) :
    ∃ Fl lv, w1.cell? ⟨g, i * Rep.sz α + f, none⟩ = some lv ∧ own Fl w1 [lv] (get x) ∧ Fl.Nodup ∧
      ∀ (w' : World) (y : β), Still Fl w1 w' [lv] y → Still F w w' [.slice (some ⟨g, 0, none⟩) n cap] (xs.set i (put x y)) := by
  obtain ⟨F', ho, hn, hof, ht⟩ := h
  obtain ⟨Fl, lv, h1, h2, h3, _, h5⟩ := own_callf' L ho hn hx
  exact ⟨Fl, lv, h1, h2, h3, fun w' y hS => Still.step hof ht (h5 w' y hS)⟩
theorem Still.addr {F : List Nat} {a : Option Addr} {n cap : Nat} {xs : List α} (h : Still F w w1 [.slice a n cap] xs) (hx : 0 < xs.length) : ∃ g, a = some ⟨g, 0, none⟩ := by
  obtain ⟨F', ho, _⟩ := h
  obtain ⟨g, hg, _⟩ := own_addr ho hx
  exact ⟨g, hg⟩
end
section
variable {P : Program} {t : TypeId}
theorem opn_struct4 {σ α β γ δ : Type} [Rep α] [Rep β] [Rep γ] [Rep δ] {f0 f1 f2 f3 : Field} (mk : α → β → γ → δ → σ) [Rep σ]
    (hmk : ∀ (w : World) (v0 v1 v2 v3 : List Value) (x : α) (y : β) (z : γ) (u : δ), rd (fun _ => True) w v0 x → rd (fun _ => True) w v1 y → rd (fun _ => True) w v2 z → rd (fun _ => True) w v3 u → rd (fun _ => True) w (v0 ++ (v1 ++ (v2 ++ v3))) (mk x y z u))
    (ht : P.underlying t = some (.struct #[f0, f1, f2, f3])) (h0 : Opn P f0.type α) (h1 : Opn P f1.type β) (h2 : Opn P f2.type γ) (h3 : Opn P f3.type δ)
    (hc0 : P.cellsOf f0.type = Rep.sz α) (hc1 : P.cellsOf f1.type = Rep.sz β) (hc2 : P.cellsOf f2.type = Rep.sz γ) (hc3 : P.cellsOf f3.type = Rep.sz δ)
    (ho0 : f0.offset = 0) (ho1 : f1.offset = Rep.sz α) (ho2 : f2.offset = Rep.sz α + Rep.sz β) (ho3 : f3.offset = Rep.sz α + Rep.sz β + Rep.sz γ) (hct : P.cellsOf t = Rep.sz α + Rep.sz β + Rep.sz γ + Rep.sz δ) : Opn P t σ := by
  intro H enc w spare held fuel cs x h
  obtain ⟨xs, n, _, _, hl, hlen, hf⟩ := DataW.trod_struct ht h
  obtain ⟨y0, y1, y2, y3, rfl⟩ : ∃ y0 y1 y2 y3, xs = [y0, y1, y2, y3] := by
    match xs, hlen with
    | [y0, y1, y2, y3], _ => exact ⟨y0, y1, y2, y3, rfl⟩
  have g0 := hf 0 f0 rfl
  have g1 := hf 1 f1 rfl
  have g2 := hf 2 f2 rfl
  have g3 := hf 3 f3 rfl
  rw [ho0, hc0] at g0
  rw [ho1, hc1] at g1
  rw [ho2, hc2] at g2
  rw [ho3, hc3] at g3
  obtain ⟨x0, r0⟩ := h0 H enc w spare held n _ _ g0
  obtain ⟨x1, r1⟩ := h1 H enc w spare held n _ _ g1
  obtain ⟨x2, r2⟩ := h2 H enc w spare held n _ _ g2
  obtain ⟨x3, r3⟩ := h3 H enc w spare held n _ _ g3
  refine ⟨mk x0 x1 x2 x3, ?_⟩
  have := hmk w _ _ _ _ x0 x1 x2 x3 r0 r1 r2 r3
  have e : cs = (cs.drop 0).take (Rep.sz α) ++ ((cs.drop (Rep.sz α)).take (Rep.sz β) ++ ((cs.drop (Rep.sz α + Rep.sz β)).take (Rep.sz γ) ++ (cs.drop (Rep.sz α + Rep.sz β + Rep.sz γ)).take (Rep.sz δ))) := by
    rw [List.take_of_length_le (l := List.drop (Rep.sz α + Rep.sz β + Rep.sz γ) cs) (by simp; omega)]
    rw [← List.drop_drop (j := Rep.sz α + Rep.sz β), List.take_append_drop, ← List.drop_drop (j := Rep.sz α), List.take_append_drop, List.drop_zero, List.take_append_drop]
  rw [e]
  exact this
end
end Go.Vc
