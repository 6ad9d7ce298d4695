/- Lists of Need that came in. -/
import Derived.Test.YtajlfdofjegdjaaOpenRows
import Derived.Test.YtajlfdofjegdjaaNeedTo
namespace Go.Proofs.Ytajlfdofjegdjaa
open Go.ChangeShapes Go.WideShapes Go.ChangeAt Go.RowKit Go.Deep
theorem open_needsIn {H : Type} {enc : TypeId × Value → H} {W : World} {a : Option Addr} {len cap : Nat} {d : DataW H} {p : List MemPlace}
    (h : DataW.Trod enc Try.prog W 0 (fun _ => true) true 29 (.slice a len cap) d p) : len ≤ 9223372036854775807 ∧ ∃ l, len ≤ 1048576 → NeedsIn W a len l ∧ ∀ x ∈ l, okNd x := by
  refine open_rows_ok ndF okNd Try.underlying29 (by kernel_rfl) (by decide) (fun fuel cs x hx => ?_) h
  obtain ⟨hl, n, hf⟩ := struct_fields Try.underlying142 (by kernel_rfl) hx
  have hC : Try.prog.cellsOf 142 = 2 := by kernel_rfl
  rw [hC] at hl
  match cs, hl with
  | [c0, c1], _ =>
    obtain ⟨v0, y0, e0, h0⟩ := hf 0 _ rfl
    obtain ⟨v1, y1, e1, h1⟩ := hf 1 _ rfl
    subst e0 e1
    obtain ⟨n0, g0, _, sz0⟩ := DataW.trod_string Try.underlying9 h0
    obtain ⟨n1, g1, _⟩ := DataW.trod_int Try.underlying3 h1
    simp at g0 g1
    subst g0 g1
    exact ⟨(n0, n1), rfl, by unfold okNd; unfold maxLen at sz0; exact sz0⟩
end Go.Proofs.Ytajlfdofjegdjaa
