/- A cell of a row of numbers, with getD. -/
import Derived.Test.YtmkfinahbelpdaaNums
namespace Go.Proofs.Ytmkfinahbelpdaa
open Go.RowKit
theorem getD_cell {l : List Int} {j : Nat} (h : j < l.length) : l.getD j 0 = l[j] := by rw [List.getD_eq_getElem?_getD, List.getElem?_eq_getElem h]; rfl
theorem NumRow.cellD {w : World} {lo g n c : Nat} {l : List Int} (h : NumRow w lo g n c l) {j : Nat} (hj : j < l.length) : w.cell? ⟨g, j, none⟩ = some (.int .i64 (l.getD j 0)) := by rw [getD_cell hj]; exact h.cell hj
end Go.Proofs.Ytmkfinahbelpdaa
