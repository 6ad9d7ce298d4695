/- The endings of calls that hand back flows. -/
import Derived.Test.YtdofhdelcendeaaAppend
import Derived.Test.YtdofhdelcendeaaFlowPlain
import Derived.Test.YtdofhdelcendeaaFlowTo
import Derived.Deep.DeepMust
namespace Go.Proofs.Ytdofhdelcendeaa
open Go.RowKit
theorem flowElem : ElemOk flF 27 51 := by
  obtain ⟨i, h1, h2, h3, h4⟩ := info_parts flowInfo
  exact ⟨i, _, 16, Try.underlying27, h1, h2, h3, h4, rfl, by decide, by omega⟩
/-- The ending of a call that hands back a row of flows and whether it is one. -/
def PairRows (w : World) (val : List Fl × Bool) (e : Ending) (w' : World) : Prop :=
  ∃ A c, e = .returned (.tuple #[.slice A val.1.length c, .bool val.2]) ∧ OwnRows flF 51 w' w.heap.size A val.1.length c val.1 ∧ Below w.heap.size w w'
theorem pairRows_mk {w w' : World} {val : List Fl × Bool} {v : Value} {l : List Fl} {b : Bool} (hv : val = (l, b)) (h : RowVal flF 51 w' w.heap.size v l) (hb : Below w.heap.size w w') : PairRows w val (.returned (.tuple #[v, .bool b])) w' := by
  obtain ⟨A, c, rfl, ho⟩ := h.form
  subst hv
  exact ⟨A, c, rfl, ho, hb⟩
theorem foldl_take {α β : Type} (f : β → α → β) (b : β) (l : List α) (k : Nat) (h : k < l.length) : (l.take (k + 1)).foldl f b = f ((l.take k).foldl f b) l[k] := by
  rw [List.take_succ_eq_append_getElem h, List.foldl_append]; rfl

end Go.Proofs.Ytdofhdelcendeaa
