/- Bytes that came in. -/
import Derived.Test.YtmkfinahbelpdaaOpenRows
import Derived.Test.YtmkfinahbelpdaaBytesCore
namespace Go.Proofs.Ytmkfinahbelpdaa
open Go.ChangeShapes Go.WideShapes Go.ChangeAt Go.RowKit Go.Deep
theorem open_bytesIn {H : Type} {enc : TypeId × Value → H} {W : World} {a : Option Addr} {len cap : Nat} {d : DataW H} {p : List MemPlace}
    (h : DataW.Trod enc Try.prog W 0 (fun _ => true) true 22 (.slice a len cap) d p) : len ≤ 9223372036854775807 ∧ ∃ l, len ≤ 1048576 → RowsIn byteF W a len l ∧ ∀ x ∈ l, okByte x := by
  refine open_rows_ok byteF okByte Try.underlying22 (by kernel_rfl) (by decide) (fun fuel cs x hx => ?_) h
  obtain ⟨n0, g0, _, hw⟩ := DataW.trod_int Try.underlying5 hx
  subst g0
  refine ⟨n0, rfl, ?_⟩
  simp [Lit.wf] at hw
  have e1 : IntKind.u8.min = 0 := by decide
  have e2 : IntKind.u8.max = 255 := by decide
  unfold okByte
  omega
end Go.Proofs.Ytmkfinahbelpdaa
