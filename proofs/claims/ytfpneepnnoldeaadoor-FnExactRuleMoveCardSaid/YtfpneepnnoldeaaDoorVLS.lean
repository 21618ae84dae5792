/-
  Walks: the laws' own helpers on Lost: what it takes of a budget, copies, whether two are one. / Walks: marks of Lost. / What a budget bounds, of files. The arguments of the laws of rules.
-/
import Derived.Test.YtfpneepnnoldeaaDoorLost0
import Derived.Test.YtfpneepnnoldeaaDoorVD
import Derived.Test.YtfpneepnnoldeaaDoorVF
import Derived.Test.YtfpneepnnoldeaaDoorVPB
import Derived.Test.YtfpneepnnoldeaaDoorSplit
set_option linter.unusedVariables false
namespace Go.Proofs.YtfpneepnnoldeaaDoor
open Go.RowKit Go.Vc
open Go.Vc.Rep (rd)
open Go.Vc.Own (own)

def bulk1_lost (d : Lost) : Nat := d.path.size + d.ref.size


abbrev bulk_L (xs : List Lost) : Nat := bulkL bulk1_lost xs


end Go.Proofs.YtfpneepnnoldeaaDoor
namespace Go.Proofs.YtfpneepnnoldeaaDoor
open Go.RowKit Go.Vc
open Go.Vc.Rep (rd)
open Go.Vc.Own (own)

def cnt1_lost (d : Lost) : Nat := 1 + 1 + 1
def mark1_lost (k : Int) (d : Lost) : Lost := ⟨markT (k), k + 1, markT (k + 1 + 1)⟩
abbrev cnt_L (xs : List Lost) : Nat := bsum cnt1_lost xs
abbrev marks_L (k : Int) (xs : List Lost) : List Lost := marksL mark1_lost cnt1_lost k xs
theorem cnt_L_le (xs : List Lost) : cnt_L xs ≤ 4 * bulk_L xs := bsum_le (fun d => by
  have e1 : cnt1_lost d = 1 + 1 + 1 := rfl
  have e2 : bulk1_lost d = d.path.size + d.ref.size := rfl
  omega) xs
theorem marks_L_len (k : Int) (xs : List Lost) : (marks_L k xs).length = xs.length := marksL_len _ _ _ _
theorem held_at_lost {S : Nat → Prop} {w : World} {a : Option Addr} {cap : Nat} {ys : List Lost} (hs : IsSlice S w a cap ys) {d : Lost} {j : Nat} {k0 kk : Int} (hj : ys[j]? = some (mark1_lost k0 d)) (hk : k0 = kk) :
    ∃ g off, a = some ⟨g, off, none⟩ ∧ w.cell? ⟨g, off + j * 3, none⟩ = some (.string (markT (kk))) ∧ w.cell? ⟨g, off + j * 3 + 1, none⟩ = some (.int .i64 (kk + 1)) ∧ w.cell? ⟨g, off + j * 3 + 2, none⟩ = some (.string (markT (kk + 1 + 1))) := by
  subst hk
  obtain ⟨hj, he⟩ := List.getElem?_eq_some_iff.1 hj
  obtain ⟨g, off, rfl, hc0, hc1, hc2, k0, k1, k2⟩ := hs.lost hj
  rw [he] at hc0 k0 hc1 k1 hc2 k2
  exact ⟨g, off, rfl, hc0, hc1, hc2⟩
end Go.Proofs.YtfpneepnnoldeaaDoor
namespace Go.Proofs.YtfpneepnnoldeaaDoor
open Go.RowKit Go.Vc
open Go.Vc.Rep (rd)
open Go.Vc.Own (own)
theorem files_short {xs : List File} (h : bulk_F xs ≤ 1048576) : ∀ f, f ∈ xs → ShortS f.path := by
  intro x hx
  obtain ⟨i, hi, rfl⟩ := List.getElem_of_mem hx
  have h1 := bsum_at bulk1_file xs i hi
  have h2 : bulk_F xs = xs.length + bsum bulk1_file xs := rfl
  have h3 : bulk1_file xs[i] = xs[i].path.size + bulk_S xs[i].text := rfl
  exact short_of (by omega)
theorem cnt_few {xs : List Lost} (h : xs.length ≤ 80) : cnt_L xs ≤ 240 := by
  have : ∀ ys : List Lost, cnt_L ys = 3 * ys.length := by
    intro ys
    induction ys with
    | nil => rfl
    | cons y r ih =>
      have e : cnt_L (y :: r) = cnt1_lost y + cnt_L r := by simp [cnt_L, bsum]
      rw [e, ih, List.length_cons]
      show 1 + 1 + 1 + 3 * r.length = _
      omega
  rw [this]
  omega
end Go.Proofs.YtfpneepnnoldeaaDoor
