/- Lists of CondNode that came in. -/
import Derived.Test.YtajlfdofjegdjaaOpenRows
import Derived.Test.YtajlfdofjegdjaaCondNodeTo
namespace Go.Proofs.Ytajlfdofjegdjaa
open Go.ChangeShapes Go.WideShapes Go.ChangeAt Go.RowKit Go.Deep
theorem open_condsIn {H : Type} {enc : TypeId × Value → H} {W : World} {a : Option Addr} {len cap : Nat} {d : DataW H} {p : List MemPlace}
    (h : DataW.Trod enc Try.prog W 0 (fun _ => true) true 133 (.slice a len cap) d p) : len ≤ 9223372036854775807 ∧ ∃ l, len ≤ 1048576 → CondsIn W a len l ∧ ∀ x ∈ l, okCn x := by
  refine open_rows_ok cnF okCn Try.underlying133 (by kernel_rfl) (by decide) (fun fuel cs x hx => ?_) h
  obtain ⟨hl, n, hf⟩ := struct_fields Try.underlying203 (by kernel_rfl) hx
  have hC : Try.prog.cellsOf 203 = 3 := by kernel_rfl
  rw [hC] at hl
  match cs, hl with
  | [c0, c1, c2], _ =>
    obtain ⟨v0, y0, e0, h0⟩ := hf 0 _ rfl
    obtain ⟨v1, y1, e1, h1⟩ := hf 1 _ rfl
    obtain ⟨v2, y2, e2, h2⟩ := hf 2 _ rfl
    subst e0 e1 e2
    obtain ⟨n0, g0, _⟩ := DataW.trod_int Try.underlying3 h0
    obtain ⟨n1, g1, _, sz1⟩ := DataW.trod_string Try.underlying9 h1
    obtain ⟨n2, g2, _, sz2⟩ := DataW.trod_string Try.underlying9 h2
    simp at g0 g1 g2
    subst g0 g1 g2
    exact ⟨(n0, n1, n2), rfl, by unfold okCn; unfold maxLen at sz1; unfold maxLen at sz2; exact ⟨sz1, sz2⟩⟩
end Go.Proofs.Ytajlfdofjegdjaa
