/- Boxes in memory. -/
import Derived.Test.YtajlfdofjegdjaaAppend
namespace Go.Proofs.Ytajlfdofjegdjaa
open Go.RowKit
/-- A box in memory: block N holds the cells cs. -/
def BoxOf (w : World) (N : Nat) (cs : List Value) : Prop := N < w.heap.size ∧ ∀ j u, cs[j]? = some u → w.cell? ⟨N, j, none⟩ = some u
theorem BoxOf.keep {w w' : World} {N : Nat} {cs : List Value} (h : BoxOf w N cs) (hb : Below w.heap.size w w') : BoxOf w' N cs :=
  ⟨Nat.lt_of_lt_of_le h.1 hb.size, fun j u hu => (hb.cell (p := ⟨N, j, none⟩) h.1).trans (h.2 j u hu)⟩
theorem BoxOf.two {w : World} {N : Nat} {x y : Value} (h : BoxOf w N [x, y]) : w.cell? ⟨N, 0, none⟩ = some x ∧ w.cell? ⟨N, 1, none⟩ = some y ∧ N < w.heap.size := ⟨h.2 0 x rfl, h.2 1 y rfl, h.1⟩
theorem boxOf_alloc (w : World) (cs : Array Value) (t : TypeId) : BoxOf (w.alloc (.cells cs t)) w.heap.size cs.toList := by
  refine ⟨by simp, fun j u hu => ?_⟩
  have := news_at (w := w) rfl cs t j u hu
  rwa [Addr.add_lit, Nat.zero_add] at this
end Go.Proofs.Ytajlfdofjegdjaa
