/- Lists of Planned that came in. -/
import Derived.Test.YtajlfdofjegdjaaOpenRows
import Derived.Test.YtajlfdofjegdjaaPlannedTo
namespace Go.Proofs.Ytajlfdofjegdjaa
open Go.ChangeShapes Go.WideShapes Go.ChangeAt Go.RowKit Go.Deep
theorem open_plannedsIn {H : Type} {enc : TypeId × Value → H} {W : World} {a : Option Addr} {len cap : Nat} {d : DataW H} {p : List MemPlace}
    (h : DataW.Trod enc Try.prog W 0 (fun _ => true) true 72 (.slice a len cap) d p) : len ≤ 9223372036854775807 ∧ ∃ l, len ≤ 1048576 → PlannedsIn W a len l ∧ ∀ x ∈ l, okPl x := by
  refine open_rows_ok plF okPl Try.underlying72 (by kernel_rfl) (by decide) (fun fuel cs x hx => ?_) h
  obtain ⟨hl, n, hf⟩ := struct_fields Try.underlying120 (by kernel_rfl) hx
  have hC : Try.prog.cellsOf 120 = 5 := by kernel_rfl
  rw [hC] at hl
  match cs, hl with
  | [c0, c1, c2, c3, c4], _ =>
    obtain ⟨v0, y0, e0, h0⟩ := hf 0 _ rfl
    obtain ⟨v1, y1, e1, h1⟩ := hf 1 _ rfl
    obtain ⟨v2, y2, e2, h2⟩ := hf 2 _ rfl
    obtain ⟨v3, y3, e3, h3⟩ := hf 3 _ rfl
    obtain ⟨v4, y4, e4, h4⟩ := hf 4 _ rfl
    subst e0 e1 e2 e3 e4
    obtain ⟨n0, g0, _, sz0⟩ := DataW.trod_string Try.underlying9 h0
    obtain ⟨n1, g1, _⟩ := DataW.trod_int Try.underlying3 h1
    obtain ⟨n2, g2, _⟩ := DataW.trod_int Try.underlying3 h2
    obtain ⟨n3, g3, _⟩ := DataW.trod_int Try.underlying3 h3
    obtain ⟨n4, g4, _⟩ := DataW.trod_bool Try.underlying4 h4
    simp at g0 g1 g2 g3 g4
    subst g0 g1 g2 g3 g4
    exact ⟨(n0, n1, n2, n3, n4), rfl, by unfold okPl; unfold maxLen at sz0; exact sz0⟩
end Go.Proofs.Ytajlfdofjegdjaa
