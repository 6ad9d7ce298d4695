/- A pair of results. -/
import Derived.Test.YtmkfinahbelpdaaBase
namespace Go.Proofs.Ytmkfinahbelpdaa
open Go.RowKit
def pairV (p : Int × Bool) : Value := .tuple #[.int .i64 p.1, .bool p.2]
theorem ret_pair {p q : Int × Bool} (h : p = q) : Ending.returned (.tuple #[.int .i64 p.1, .bool p.2]) = .returned (pairV q) := by rw [h, pairV]
end Go.Proofs.Ytmkfinahbelpdaa
