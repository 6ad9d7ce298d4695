/- Calendars that came in. -/
import Derived.Test.YtajlfdofjegdjaaOpenExceptions
import Derived.Test.YtajlfdofjegdjaaLawKit
import Derived.Test.YtajlfdofjegdjaaOpenSlice
import Derived.Test.YtajlfdofjegdjaaBox
import Derived.Test.YtajlfdofjegdjaaCalTo
import Derived.Lib.SmallJoins
namespace Go.Proofs.Ytajlfdofjegdjaa
open Go.ChangeShapes Go.WideShapes Go.ChangeAt Go.RowKit Go.Deep Go.Joins
set_option maxRecDepth 100000 in
theorem open_calIn {H : Type} {enc : TypeId × Value → H} {W : World} {r : Reach} {b0 : Nat} {v : Value} {d : DataW H} {p : List MemPlace} (hv : Value.okWide Try.prog W r b0 27 v)
    (h : DataW.Trod enc Try.prog W 0 (fun _ => true) true 27 v d p) :
    ∃ A n c B m d, v = .agg #[.slice A n c, .slice B m d] ∧ n ≤ 9223372036854775807 ∧ m ≤ 9223372036854775807 ∧ ∃ wk ex, n ≤ 1048576 → m ≤ 1048576 → IntsIn W A n wk ∧ ExsIn W B m ex := by
  obtain ⟨v0, v1, y0, y1, n, rfl, rfl, rfl, h0, h1⟩ := open_agg2 Try.underlying27 (by kernel_rfl) (by kernel_rfl) hv h
  obtain ⟨A, n0, c0, rfl, t0⟩ := slice_of_trod Try.underlying24 h0
  obtain ⟨B, n1, c1, rfl, t1⟩ := slice_of_trod Try.underlying25 h1
  obtain ⟨m0, wk, w0⟩ := open_intsIn t0
  obtain ⟨m1, ex, w1⟩ := open_exsIn t1
  exact ⟨A, n0, c0, B, n1, c1, rfl, m0, m1, wk, ex, fun h2 h3 => ⟨w0 h2, w1 h3⟩⟩
end Go.Proofs.Ytajlfdofjegdjaa
