/-
  What a budget bounds, of files. The arguments of the laws of rules.
-/
import Derived.Test.YtajajidmncoliaaDoorVF
import Derived.Test.YtajajidmncoliaaDoorPlRule
import Derived.Test.YtajajidmncoliaaDoorSplit
import Derived.Test.YtajajidmncoliaaDoorLost2
set_option linter.unusedVariables false
namespace Go.Proofs.YtajajidmncoliaaDoor
open Go.RowKit Go.Vc
open Go.Vc.Rep (rd)
open Go.Vc.Own (own)
theorem files_short {xs : List File} (h : bulk_F xs ≤ 1048576) : ∀ f, f ∈ xs → ShortS f.path := by
  intro x hx
  obtain ⟨i, hi, rfl⟩ := List.getElem_of_mem hx
  have h1 := bsum_at bulk1_file xs i hi
  have h2 : bulk_F xs = xs.length + bsum bulk1_file xs := rfl
  have h3 : bulk1_file xs[i] = xs[i].path.size + bulk_S xs[i].text := rfl
  exact short_of (by omega)
theorem cnt_few {xs : List Lost} (h : xs.length ≤ 80) : cnt_L xs ≤ 240 := by
  have : ∀ ys : List Lost, cnt_L ys = 3 * ys.length := by
    intro ys
    induction ys with
    | nil => rfl
    | cons y r ih =>
      have e : cnt_L (y :: r) = cnt1_lost y + cnt_L r := by simp [cnt_L, bsum]
      rw [e, ih, List.length_cons]
      show 1 + 1 + 1 + 3 * r.length = _
      omega
  rw [this]
  omega
end Go.Proofs.YtajajidmncoliaaDoor
