/- Calendars that came in. -/
import Derived.Test.YtcfcfgecdlpflaaOpenExceptions
import Derived.Test.YtcfcfgecdlpflaaLawKit
import Derived.Test.YtcfcfgecdlpflaaCalTo
import Derived.Lib.SmallJoins
namespace Go.Proofs.Ytcfcfgecdlpflaa
open Go.ChangeShapes Go.WideShapes Go.ChangeAt Go.RowKit Go.Deep Go.Joins
/-- A box in memory: block N holds the cells cs. -/
def BoxOf (w : World) (N : Nat) (cs : List Value) : Prop := N < w.heap.size ∧ ∀ j u, cs[j]? = some u → w.cell? ⟨N, j, none⟩ = some u
theorem BoxOf.keep {w w' : World} {N : Nat} {cs : List Value} (h : BoxOf w N cs) (hb : Below w.heap.size w w') : BoxOf w' N cs :=
  ⟨Nat.lt_of_lt_of_le h.1 hb.size, fun j u hu => (hb.cell (p := ⟨N, j, none⟩) h.1).trans (h.2 j u hu)⟩
theorem BoxOf.two {w : World} {N : Nat} {x y : Value} (h : BoxOf w N [x, y]) : w.cell? ⟨N, 0, none⟩ = some x ∧ w.cell? ⟨N, 1, none⟩ = some y ∧ N < w.heap.size := ⟨h.2 0 x rfl, h.2 1 y rfl, h.1⟩
theorem boxOf_alloc (w : World) (cs : Array Value) (t : TypeId) : BoxOf (w.alloc (.cells cs t)) w.heap.size cs.toList := by
  refine ⟨by simp, fun j u hu => ?_⟩
  have := news_at (w := w) rfl cs t j u hu
  rwa [Addr.add_lit, Nat.zero_add] at this
theorem slice_of_trod {H : Type} {enc : TypeId × Value → H} {W : World} {t e : TypeId} {v : Value} {n : Nat} {y : DataW H × List MemPlace} (ht : Try.prog.underlying t = some (.slice e))
    (h : DataW.trod enc Try.prog W 0 (fun _ => true) true n t [v] = some y) : ∃ A len cap, v = .slice A len cap ∧ DataW.Trod enc Try.prog W 0 (fun _ => true) true t (.slice A len cap) y.1 y.2 := by
  rcases open_slice ht h with ⟨hcs, _⟩ | ⟨x, l, c, m, n', D, Pl, hcs, _⟩
  · simp at hcs
    subst hcs
    exact ⟨_, _, _, rfl, n, h⟩
  · simp at hcs
    subst hcs
    exact ⟨_, _, _, rfl, n, h⟩
set_option maxRecDepth 100000 in
theorem open_calIn {H : Type} {enc : TypeId × Value → H} {W : World} {r : Reach} {b0 : Nat} {v : Value} {d : DataW H} {p : List MemPlace} (hv : Value.okWide Try.prog W r b0 75 v)
    (h : DataW.Trod enc Try.prog W 0 (fun _ => true) true 75 v d p) :
    ∃ A n c B m d, v = .agg #[.slice A n c, .slice B m d] ∧ n ≤ 9223372036854775807 ∧ m ≤ 9223372036854775807 ∧ ∃ wk ex, n ≤ 1048576 → m ≤ 1048576 → IntsIn W A n wk ∧ ExsIn W B m ex := by
  obtain ⟨v0, v1, y0, y1, n, rfl, rfl, rfl, h0, h1⟩ := open_agg2 Try.underlying75 (by kernel_rfl) (by kernel_rfl) hv h
  obtain ⟨A, n0, c0, rfl, t0⟩ := slice_of_trod Try.underlying22 h0
  obtain ⟨B, n1, c1, rfl, t1⟩ := slice_of_trod Try.underlying73 h1
  obtain ⟨m0, wk, w0⟩ := open_intsIn t0
  obtain ⟨m1, ex, w1⟩ := open_exsIn t1
  exact ⟨A, n0, c0, B, n1, c1, rfl, m0, m1, wk, ex, fun h2 h3 => ⟨w0 h2, w1 h3⟩⟩
end Go.Proofs.Ytcfcfgecdlpflaa
