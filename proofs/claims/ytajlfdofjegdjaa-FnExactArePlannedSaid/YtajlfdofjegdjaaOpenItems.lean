/- Lists of Item that came in. -/
import Derived.Test.YtajlfdofjegdjaaOpenRows
import Derived.Test.YtajlfdofjegdjaaItemTo
namespace Go.Proofs.Ytajlfdofjegdjaa
open Go.ChangeShapes Go.WideShapes Go.ChangeAt Go.RowKit Go.Deep
theorem open_itemsIn {H : Type} {enc : TypeId × Value → H} {W : World} {a : Option Addr} {len cap : Nat} {d : DataW H} {p : List MemPlace}
    (h : DataW.Trod enc Try.prog W 0 (fun _ => true) true 22 (.slice a len cap) d p) : len ≤ 9223372036854775807 ∧ ∃ l, len ≤ 1048576 → ItemsIn W a len l ∧ ∀ x ∈ l, okIt x := by
  refine open_rows_ok itF okIt Try.underlying22 (by kernel_rfl) (by decide) (fun fuel cs x hx => ?_) h
  obtain ⟨hl, n, hf⟩ := struct_fields Try.underlying131 (by kernel_rfl) hx
  have hC : Try.prog.cellsOf 131 = 8 := by kernel_rfl
  rw [hC] at hl
  match cs, hl with
  | [c0, c1, c2, c3, c4, c5, c6, c7], _ =>
    obtain ⟨v0, y0, e0, h0⟩ := hf 0 _ rfl
    obtain ⟨v1, y1, e1, h1⟩ := hf 1 _ rfl
    obtain ⟨v2, y2, e2, h2⟩ := hf 2 _ rfl
    obtain ⟨v3, y3, e3, h3⟩ := hf 3 _ rfl
    obtain ⟨v4, y4, e4, h4⟩ := hf 4 _ rfl
    obtain ⟨v5, y5, e5, h5⟩ := hf 5 _ rfl
    obtain ⟨v6, y6, e6, h6⟩ := hf 6 _ rfl
    obtain ⟨v7, y7, e7, h7⟩ := hf 7 _ rfl
    subst e0 e1 e2 e3 e4 e5 e6 e7
    obtain ⟨n0, g0, _, sz0⟩ := DataW.trod_string Try.underlying9 h0
    obtain ⟨n1, g1, _, sz1⟩ := DataW.trod_string Try.underlying9 h1
    obtain ⟨n2, g2, _⟩ := DataW.trod_int Try.underlying3 h2
    obtain ⟨n3, g3, _⟩ := DataW.trod_int Try.underlying3 h3
    obtain ⟨n4, g4, _⟩ := DataW.trod_int Try.underlying3 h4
    obtain ⟨n5, g5, _⟩ := DataW.trod_int Try.underlying3 h5
    obtain ⟨n6, g6, _⟩ := DataW.trod_int Try.underlying3 h6
    obtain ⟨n7, g7, _⟩ := DataW.trod_int Try.underlying3 h7
    simp at g0 g1 g2 g3 g4 g5 g6 g7
    subst g0 g1 g2 g3 g4 g5 g6 g7
    exact ⟨(n0, n1, n2, n3, n4, n5, n6, n7), rfl, by unfold okIt; unfold maxLen at sz0; unfold maxLen at sz1; exact ⟨sz0, sz1⟩⟩
end Go.Proofs.Ytajlfdofjegdjaa
