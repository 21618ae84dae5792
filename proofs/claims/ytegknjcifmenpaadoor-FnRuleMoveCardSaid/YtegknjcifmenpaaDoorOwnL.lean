/-
  An own tree, its row and its files apart, and joined again. No program is in sight here.
-/
import Derived.Test.YtegknjcifmenpaaDoorVR
import Derived.Test.YtegknjcifmenpaaDoorFS
import Derived.Test.YtegknjcifmenpaaDoorVPB
set_option linter.unusedVariables false
namespace Go.Vc
open Go.RowKit
open Rep (rd)
open Own (own)
theorem FS.frame {α : Type} [Own α] {S S' : Nat → Prop} {w w' : World} {vs : List Value} {x : α} (hf : ∀ b, S b → b < w.heap.size → w'.heap[b]? = w.heap[b]? ∧ S' b) (h : FS S w vs x) : FS S' w' vs x := by
  obtain ⟨F, ho, hn, hb⟩ := h
  have hlt := Own.lt ho
  exact ⟨F, Own.oframe (fun b hbm => (hf b (hb b hbm) (hlt b hbm)).1) ho, hn, fun b hbm => (hf b (hb b hbm) (hlt b hbm)).2⟩
theorem FS.low {α : Type} [Own α] {S : Nat → Prop} {w w' : World} {vs : List Value} {x : α} (h : FS S w vs x) (hb : Below w.heap.size w w') : FS S w' vs x := FS.frame (fun b hs hl => ⟨hb.block b hl, hs⟩) h
/-- each path's blocks are its own -/
def Apart (φ : ByteArray → Nat → Prop) : Prop := ∀ p q b, φ p b → φ q b → p = q
/-- files by different paths, each of its own blocks -/
theorem own_join {φ : ByteArray → Nat → Prop} {w : World} (hφ : Apart φ) : ∀ {rs : List (Raw File)} {xs : List File}, All2 (fun r x => FS (φ x.path) w (Raw.vs r) x) rs xs → DistF xs →
    ∃ Fs, ownAll w Fs (rs.map Raw.vs) xs ∧ Fs.flatten.Nodup ∧ ∀ b, b ∈ Fs.flatten → ∃ x, x ∈ xs ∧ φ x.path b
  | [], [], _, _ => ⟨[], trivial, List.nodup_nil, fun b hb => by cases hb⟩
  | r :: rs, x :: xs, h, hd => by
    obtain ⟨⟨F, ho, hn, hb⟩, h2⟩ := h
    obtain ⟨d1, d2⟩ := List.pairwise_cons.1 hd
    obtain ⟨Fs, k1, k2, k3⟩ := own_join hφ h2 d2
    refine ⟨F :: Fs, ⟨ho, k1⟩, ?_, fun b hbm => ?_⟩
    · rw [List.flatten_cons]
      refine List.nodup_append.2 ⟨hn, k2, fun a ha b hbb e => ?_⟩
      subst e
      obtain ⟨y, hy, hyb⟩ := k3 a hbb
      exact d1 y hy (hφ _ _ a (hb a ha) hyb)
    · rw [List.flatten_cons] at hbm
      rcases List.mem_append.1 hbm with h | h
      · exact ⟨x, List.mem_cons_self .., hb b h⟩
      · obtain ⟨y, hy, hyb⟩ := k3 b h
        exact ⟨y, List.mem_cons_of_mem _ hy, hyb⟩
  | [], _ :: _, h, _ => h.elim
  | _ :: _, [], h, _ => h.elim
theorem raw_cells {w : World} : ∀ {Fs : List (List Nat)} {cs : List (List Value)} {rs : List (Raw File)}, ownAll w Fs cs rs → cs = rs.map Raw.vs ∧ Fs.flatten = []
  | [], [], [], _ => ⟨rfl, rfl⟩
  | F :: Fs, c :: cs, r :: rs, h => by
    obtain ⟨⟨rfl, rfl⟩, h2⟩ := h
    obtain ⟨k1, k2⟩ := raw_cells h2
    exact ⟨by rw [k1]; rfl, by rw [List.flatten_cons, k2]; rfl⟩
  | [], [], _ :: _, h => h.elim
  | [], _ :: _, [], h => h.elim
  | [], _ :: _, _ :: _, h => h.elim
  | _ :: _, [], [], h => h.elim
  | _ :: _, [], _ :: _, h => h.elim
  | _ :: _, _ :: _, [], h => h.elim
/-- the row and the files, joined -/
theorem FreshX.join {φ : ByteArray → Nat → Prop} {H : Nat → Prop} {B C m : Nat} {w : World} {v : Value} {rs : List (Raw File)} {xs : List File} (h : FreshX H B m w [v] rs) (hφ : Apart φ) (h2 : All2 (fun r x => FS (φ x.path) w (Raw.vs r) x) rs xs) (hd : DistF xs)
    (hH : ∀ p b, φ p b → H b ∨ b < B) (hC : ∀ p b, φ p b → C ≤ b) (hB : C ≤ B) : Fresh C w.heap.size w [v] xs := by
  obtain ⟨Fs, k1, k2, k3⟩ := own_join hφ h2 hd
  obtain ⟨F, ho, hn, hb, hh⟩ := h
  have hlt := Own.lt ho
  obtain ⟨v', cs, Fr, hv, hrow, rfl, hall, hz⟩ := ho
  simp at hv
  subst hv
  obtain ⟨e1, e2⟩ := raw_cells hall
  subst e1
  rw [e2, List.append_nil] at hn hb hh hlt
  have hl := h2.len
  refine ⟨v.ownBlock.toList ++ Fs.flatten, ⟨v, rs.map Raw.vs, Fs, rfl, by rw [← hl]; exact hrow, rfl, k1, hz⟩, List.nodup_append.2 ⟨hn, k2, fun a ha b hbb e => ?_⟩, fun b hbm => ?_⟩
  · subst e
    obtain ⟨x, _, hx⟩ := k3 a hbb
    rcases hH _ _ hx with h | h
    · exact hh a ha h
    · have := (hb a ha).1; omega
  · rcases List.mem_append.1 hbm with h | h
    · exact ⟨by have := (hb b h).1; omega, hlt b h⟩
    · obtain ⟨x, _, hx⟩ := k3 b h
      exact ⟨hC _ _ hx, k1.lt b h⟩
/-- the files of an own tree, each of its own blocks -/
theorem own_part {w : World} : ∀ {Fs : List (List Nat)} {cs : List (List Value)} {xs : List File}, ownAll w Fs cs xs → Fs.flatten.Nodup → DistF xs →
    ∃ φ : ByteArray → Nat → Prop, Apart φ ∧ (∀ p b, φ p b → b ∈ Fs.flatten) ∧ ∀ (i : Nat) (h : i < xs.length) (c : List Value), cs[i]? = some c → FS (φ xs[i].path) w c xs[i]
  | [], [], [], _, _, _ => ⟨fun _ _ => False, fun _ _ _ h => h.elim, fun _ _ h => h.elim, fun i h => absurd h (by simp)⟩
  | F :: Fs, c :: cs, x :: xs, h, hn, hd => by
    rw [List.flatten_cons] at hn
    obtain ⟨n1, n2, n3⟩ := List.nodup_append.1 hn
    obtain ⟨d1, d2⟩ := List.pairwise_cons.1 hd
    obtain ⟨φ, k1, k2, k3⟩ := own_part h.2 n2 d2
    refine ⟨fun p b => (p = x.path ∧ b ∈ F) ∨ (¬ p = x.path ∧ φ p b), fun p q b hp hq => ?_, fun p b hp => ?_, fun i hi c' hc => ?_⟩
    · rcases hp with ⟨rfl, hp⟩ | ⟨hp1, hp⟩ <;> rcases hq with ⟨rfl, hq⟩ | ⟨hq1, hq⟩
      · rfl
      · exact absurd rfl (n3 b hp b (k2 _ _ hq))
      · exact absurd rfl (n3 b hq b (k2 _ _ hp))
      · exact k1 p q b hp hq
    · rw [List.flatten_cons]
      rcases hp with ⟨_, hp⟩ | ⟨_, hp⟩
      · exact List.mem_append.2 (.inl hp)
      · exact List.mem_append.2 (.inr (k2 _ _ hp))
    · cases i with
      | zero =>
        simp at hc
        subst hc
        exact ⟨F, h.1, n1, fun b hb => .inl ⟨rfl, hb⟩⟩
      | succ i =>
        have hi' : i < xs.length := by simpa using hi
        have := k3 i hi' c' (by simpa using hc)
        refine FS.frame (fun b hb _ => ⟨rfl, .inr ⟨fun e => d1 xs[i] (List.getElem_mem hi') e.symm, hb⟩⟩) this
  | [], [], _ :: _, h, _, _ => h.elim
  | [], _ :: _, [], h, _, _ => h.elim
  | [], _ :: _, _ :: _, h, _, _ => h.elim
  | _ :: _, [], [], h, _, _ => h.elim
  | _ :: _, [], _ :: _, h, _, _ => h.elim
  | _ :: _, _ :: _, [], h, _, _ => h.elim
/-- what is known of the row's cells -/
def CellsOwn (φ : ByteArray → Nat → Prop) (w : World) (a : Option Addr) (xs : List File) : Prop :=
  ∀ (k : Nat) (h : k < xs.length) (g off : Nat) (a1 : Option Addr) (c1 : Nat), a = some ⟨g, off, none⟩ → w.cell? ⟨g, off + k * 2, none⟩ = some (.string xs[k].path) → w.cell? ⟨g, off + k * 2 + 1, none⟩ = some (.slice a1 xs[k].text.length c1) → FS (φ xs[k].path) w [.string xs[k].path, .slice a1 xs[k].text.length c1] xs[k]
theorem Fresh.part {B m : Nat} {w : World} {a : Option Addr} {n cap : Nat} {xs : List File} (h : Fresh B m w [.slice a n cap] xs) (hd : DistF xs) :
    ∃ φ, Apart φ ∧ (∀ p b, φ p b → B ≤ b ∧ b < w.heap.size) ∧ CellsOwn φ w a xs := by
  obtain ⟨F, ho, hn, hb⟩ := h
  obtain ⟨v', cs, Fs, hv, hrow, rfl, hall, hz⟩ := ho
  simp at hv
  subst hv
  obtain ⟨n1, n2, n3⟩ := List.nodup_append.1 hn
  obtain ⟨φ, k1, k2, k3⟩ := own_part hall n2 hd
  obtain ⟨h1, h2, h3⟩ := hall.lens
  refine ⟨φ, k1, fun p b hp => ⟨(hb b (List.mem_append.2 (.inr (k2 p b hp)))).1, hall.lt b (k2 p b hp)⟩, ?_⟩
  intro k hk g off a1 c1 ha e0 e1
  have hck : ∃ c, cs[k]? = some c := ⟨cs[k]'(by omega), List.getElem?_eq_getElem (by omega)⟩
  obtain ⟨c, hc⟩ := hck
  have hfs := k3 k hk c hc
  have hrd := hfs.rd
  obtain ⟨a8, c8, hce, _⟩ := rd_file hrd
  subst ha
  have hoff : off = 0 := by
    rcases hrow.2 with ⟨hh, _⟩ | ⟨g', cap', cur, hh, _⟩
    · simp at hh
    · simp only [Value.slice.injEq, Option.some.injEq, Addr.mk.injEq] at hh
      exact hh.1.2.1
  subst hoff
  have hcell := hrow.cells (g := g) (by
    rcases hrow.2 with ⟨hh, _⟩ | ⟨g', cap', cur, hh, _⟩
    · simp at hh
    · rfl)
  have hc1 := hcell (k * 2 + 1) (.slice a8 xs[k].text.length c8) (by
    have := flatten_at h3 hc (j := 1) (by decide)
    rw [show k * Rep.sz File + 1 = k * 2 + 1 from rfl] at this
    rw [this, hce]; rfl)
  have hadd : (⟨g, 0, none⟩ : Addr).add (k * 2 + 1) = ⟨g, 0 + k * 2 + 1, none⟩ := by unfold Addr.add; split <;> simp_all
  rw [hadd, e1] at hc1
  simp at hc1
  obtain ⟨rfl, rfl⟩ := hc1
  rw [hce] at hfs
  exact hfs
end Go.Vc
