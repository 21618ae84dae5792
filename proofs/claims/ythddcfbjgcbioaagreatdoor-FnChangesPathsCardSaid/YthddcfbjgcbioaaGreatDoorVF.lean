/-
  Walks: marks. / Walks: marks of []string, in one form with all others. / A small law on lists. No program is in sight here. / Walks: marks of File.
-/
import Derived.Test.YthddcfbjgcbioaaGreatDoorVD
import Derived.Test.YthddcfbjgcbioaaGreatDoorVB
import Derived.Laws.BytesArg
set_option linter.unusedVariables false
namespace Go.Proofs.YthddcfbjgcbioaaGreatDoor
open Go.RowKit Go.Vc
open Go.Vc.Rep (rd)
open Go.Vc.Own (own)

/-- figures ahead of a text -/
def digs : Nat → Nat → ByteArray → ByteArray
  | 0, _, s => s
  | f + 1, m, s => if m = 0 then s else digs f (m / 10) (strOfNums [48 + (m : Int) % 10] ++ s)
theorem digs_end (f : Nat) (s : ByteArray) : digs f 0 s = s := by cases f <;> rfl
theorem digs_next {D : ByteArray} {f m : Nat} {s : ByteArray} (H : D = digs (f + 1) m s) (h : 0 < m) : D = digs f (m / 10) (strOfNums [48 + (m : Int) % 10] ++ s) := by rw [H, digs, if_neg (by omega)]
/-- the mark of a number -/
def markT (k : Int) : ByteArray := if k ≤ 0 then ⟨#[109, 48]⟩ else ⟨#[109]⟩ ++ digs 8 k.toNat ⟨#[]⟩
theorem pow_drop {m f : Nat} (h0 : 0 < m) (h : m < 10 ^ f) : ∃ f', f = f' + 1 ∧ m / 10 < 10 ^ f' := by
  cases f with
  | zero => simp at h; omega
  | succ f => exact ⟨f, rfl, by rw [Nat.pow_succ] at h; omega⟩

/-- so many marks, from k on -/
def marksS (k : Int) : Nat → List ByteArray
  | 0 => []
  | n + 1 => markT k :: marksS (k + 1) n
theorem marksS_len (n : Nat) (k : Int) : (marksS k n).length = n := by
  induction n generalizing k with
  | zero => rfl
  | succ n ih => simp [marksS, ih]
theorem marksS_at : ∀ (n : Nat) (k : Int) (i : Nat) (h : i < (marksS k n).length), (marksS k n)[i] = markT (k + i)
  | 0, _, i, h => by simp [marksS] at h
  | n + 1, k, 0, _ => by simp [marksS]
  | n + 1, k, i + 1, h => by
    have := marksS_at n (k + 1) i (by simpa [marksS] using h)
    simp only [marksS, List.getElem_cons_succ]
    rw [this]
    congr 1
    omega
theorem digs_size : ∀ (f m : Nat) (s : ByteArray), (digs f m s).size ≤ f + s.size
  | 0, _, s => by simp [digs]
  | f + 1, m, s => by
    rw [digs]
    split
    · omega
    · have := digs_size f (m / 10) (strOfNums [48 + (m : Int) % 10] ++ s)
      rw [ByteArray.size_append, strOfNums_size] at this
      simp at this
      omega
theorem markT_size (k : Int) : (markT k).size ≤ 20 := by
  unfold markT
  split
  · show 2 ≤ 20; omega
  · rw [ByteArray.size_append]
    have := digs_size 8 k.toNat ⟨#[]⟩
    have h0 : (⟨#[]⟩ : ByteArray).size = 0 := rfl
    have h1 : (⟨#[109]⟩ : ByteArray).size = 1 := rfl
    omega
theorem markT_own (k : Int) (w : World) : own [] w [.string (markT k)] (markT k) := ⟨rfl, rfl, by have := markT_size k; unfold maxLen; omega⟩

end Go.Proofs.YthddcfbjgcbioaaGreatDoor
namespace Go.Vc
open Go.RowKit
open Rep (rd)
open Own (own)
/-- marks at x's blocks leave what lies elsewhere -/
theorem Still.fresh {α β : Type} [Own α] [Own β] {F : List Nat} {w w' : World} {vs zs : List Value} {x : α} {z : β} {B m B' m' : Nat} (h : Still F w w' vs x) (hF : ∀ b, b ∈ F → B ≤ b ∧ b < m) (hz : Fresh B' m' w zs z) (hd : m' ≤ B ∨ m ≤ B') : Fresh B' m' w' zs z :=
  hz.keep fun b h1 h2 h3 => h.touch.rest b h3 fun hm => by have := hF b hm; omega
theorem Still.args {α β : Type} [Own α] [Rep β] {F : List Nat} {w w' : World} {vs zs : List Value} {x : α} {z : β} {B m C : Nat} (h : Still F w w' vs x) (hF : ∀ b, b ∈ F → B ≤ b ∧ b < m) (hz : Rep.rd (fun b => b < C) w zs z) (hd : C ≤ B) : Rep.rd (fun b => b < C) w' zs z :=
  Rep.frame (fun b h1 h2 => ⟨h.touch.rest b h2 fun hm => by have := hF b hm; omega, h1⟩) hz
theorem Still.rdlt {α : Type} [Own α] {F : List Nat} {w w' : World} {vs : List Value} {x : α} (h : Still F w w' vs x) : Rep.rd (fun b => b < w'.heap.size) w' vs x := Rep.lt h.rd
end Go.Vc
namespace Go.Proofs.YthddcfbjgcbioaaGreatDoor
open Go.RowKit Go.Vc
open Go.Vc.Rep (rd)
open Go.Vc.Own (own)

abbrev cnt_S (xs : List ByteArray) : Nat := xs.length
theorem cnt_S_le (xs : List ByteArray) : cnt_S xs ≤ 4 * bulk_S xs := by show xs.length ≤ 4 * (xs.length + _); omega
theorem bsum_le {α : Type} {b c : α → Nat} {n : Nat} (h : ∀ x, c x ≤ n * (1 + b x)) : ∀ xs : List α, bsum c xs ≤ n * (xs.length + bsum b xs)
  | [] => by simp [bsum]
  | x :: r => by
    have h1 := bsum_le h r
    have h2 := h x
    rw [bsum_cons, bsum_cons, List.length_cons]
    have : n * (r.length + 1 + (b x + bsum b r)) = n * (1 + b x) + n * (r.length + bsum b r) := by rw [← Nat.mul_add]; congr 1; omega
    omega
theorem own_int {k : Int} (h0 : 0 ≤ k) (h1 : k ≤ 16777216) (w : World) : own [] w [.int .i64 k] k := ⟨rfl, rfl, by unfold I64; omega⟩
abbrev marks_S (k : Int) (xs : List ByteArray) : List ByteArray := marksS k xs.length
theorem marks_S_len (k : Int) (xs : List ByteArray) : (marks_S k xs).length = xs.length := marksS_len _ _
end Go.Proofs.YthddcfbjgcbioaaGreatDoor
namespace Go.Vc
theorem set_same {α : Type} {l : List α} {i : Nat} {x : α} (h : l[i]? = some x) : l.set i x = l := by
  obtain ⟨hi, rfl⟩ := List.getElem?_eq_some_iff.1 h
  exact List.set_getElem_self hi
end Go.Vc
namespace Go.Proofs.YthddcfbjgcbioaaGreatDoor
open Go.RowKit Go.Vc
open Go.Vc.Rep (rd)
open Go.Vc.Own (own)

def cnt1_file (d : File) : Nat := 1 + cnt_S d.text
def mark1_file (k : Int) (d : File) : File := ⟨markT (k), marks_S (k + 1) d.text⟩
abbrev cnt_F (xs : List File) : Nat := bsum cnt1_file xs
abbrev marks_F (k : Int) (xs : List File) : List File := marksL mark1_file cnt1_file k xs
theorem cnt_F_le (xs : List File) : cnt_F xs ≤ 4 * bulk_F xs := bsum_le (fun d => by
  have e1 : cnt1_file d = 1 + cnt_S d.text := rfl
  have e2 : bulk1_file d = d.path.size + bulk_S d.text := rfl
  have := cnt_S_le d.text
  omega) xs
theorem marks_F_len (k : Int) (xs : List File) : (marks_F k xs).length = xs.length := marksL_len _ _ _ _
theorem held_at_file {S : Nat → Prop} {w : World} {a : Option Addr} {cap : Nat} {ys : List File} (hs : IsSlice S w a cap ys) {d : File} {j : Nat} {k0 kk : Int} (hj : ys[j]? = some (mark1_file k0 d)) (hk : k0 = kk) :
    ∃ g off, a = some ⟨g, off, none⟩ ∧ w.cell? ⟨g, off + j * 2, none⟩ = some (.string (markT (kk))) ∧ (∃ lv, w.cell? ⟨g, off + j * 2 + 1, none⟩ = some lv ∧ rd S w [lv] (marks_S (kk + 1) d.text)) := by
  subst hk
  obtain ⟨hj, he⟩ := List.getElem?_eq_some_iff.1 hj
  obtain ⟨g, off, b1, n1, rfl, hc0, hc1, k0, k1⟩ := hs.file hj
  rw [he] at hc0 k0 hc1 k1
  exact ⟨g, off, rfl, hc0, ⟨_, hc1, k1.rd⟩⟩
end Go.Proofs.YthddcfbjgcbioaaGreatDoor
