/- Slices of numbers that came in. -/
import Derived.Test.YtajlfdofjegdjaaOpenRows
import Derived.Test.YtajlfdofjegdjaaRowMore
namespace Go.Proofs.Ytajlfdofjegdjaa
open Go.ChangeShapes Go.WideShapes Go.ChangeAt Go.RowKit
/-- A slice of numbers that came in. -/
theorem open_intsIn {H : Type} {enc : TypeId × Value → H} {W : World} {a : Option Addr} {len cap : Nat} {d : DataW H} {p : List MemPlace}
    (h : DataW.Trod enc Try.prog W 0 (fun _ => true) true 24 (.slice a len cap) d p) : len ≤ 9223372036854775807 ∧ ∃ l, len ≤ 1048576 → IntsIn W a len l := by
  obtain ⟨h1, l, hl⟩ := open_rows_ok intF (fun _ => True) Try.underlying24 (by kernel_rfl) (by decide) (fun fuel cs x hx => by
    obtain ⟨n0, g0, _, _⟩ := DataW.trod_int Try.underlying3 hx
    subst g0
    exact ⟨n0, rfl, trivial⟩) h
  refine ⟨h1, l, fun hle => ?_⟩
  have h2 := (hl hle).1
  exact ⟨h2.1, by have h3 := h2.2; rw [intF_flat] at h3; exact h3⟩
end Go.Proofs.Ytajlfdofjegdjaa
