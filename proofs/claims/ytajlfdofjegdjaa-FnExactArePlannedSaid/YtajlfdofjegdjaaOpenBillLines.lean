/- Lists of BillLine that came in. -/
import Derived.Test.YtajlfdofjegdjaaOpenCondNodes
import Derived.Test.YtajlfdofjegdjaaOpenSlice
import Derived.Test.YtajlfdofjegdjaaBillLineTo
namespace Go.Proofs.Ytajlfdofjegdjaa
open Go.ChangeShapes Go.WideShapes Go.ChangeAt Go.RowKit Go.Deep
set_option maxRecDepth 100000 in
theorem open_billLinesIn {H : Type} {enc : TypeId × Value → H} {W : World} {a : Option Addr} {len cap : Nat} {d : DataW H} {p : List MemPlace}
    (h : DataW.Trod enc Try.prog W 0 (fun _ => true) true 23 (.slice a len cap) d p) : len ≤ 9223372036854775807 ∧ ∃ l, len ≤ 1048576 → BillLinePre W a len l ∧ ∀ x ∈ l, okBl x := by
  obtain ⟨h1, R, h2⟩ := open_rows_ok blF (fun r => r.1.size ≤ 9223372036854775807 ∧ r.2.1.size ≤ 9223372036854775807 ∧ r.2.2.2.2.2.2.1 ≤ 9223372036854775807 ∧ ∃ l, (r.2.2.2.2.2.2.1 ≤ 1048576 → CondsIn W r.2.2.2.2.2.1 r.2.2.2.2.2.2.1 l) ∧ ∀ y ∈ l, okCn y) Try.underlying23 (by kernel_rfl) (by decide) (fun fuel cs x hx => by
    obtain ⟨hl, n, hf⟩ := struct_fields Try.underlying135 (by kernel_rfl) hx
    have hC : Try.prog.cellsOf 135 = 6 := by kernel_rfl
    rw [hC] at hl
    match cs, hl with
    | [c0, c1, c2, c3, c4, c5], _ =>
      obtain ⟨v0, y0, e0, h0⟩ := hf 0 _ rfl
      obtain ⟨v1, y1, e1, h1⟩ := hf 1 _ rfl
      obtain ⟨v2, y2, e2, h2⟩ := hf 2 _ rfl
      obtain ⟨v3, y3, e3, h3⟩ := hf 3 _ rfl
      obtain ⟨v4, y4, e4, h4⟩ := hf 4 _ rfl
      obtain ⟨v5, y5, e5, h5⟩ := hf 5 _ rfl
      subst e0 e1 e2 e3 e4 e5
      obtain ⟨n0, g0, _, sz0⟩ := DataW.trod_string Try.underlying9 h0
      obtain ⟨n1, g1, _, sz1⟩ := DataW.trod_string Try.underlying9 h1
      obtain ⟨n2, g2, _⟩ := DataW.trod_int Try.underlying3 h2
      obtain ⟨n3, g3, _⟩ := DataW.trod_int Try.underlying3 h3
      obtain ⟨n4, g4, _⟩ := DataW.trod_int Try.underlying3 h4
      obtain ⟨A, len, cap, g5, t⟩ := slice_of_trod Try.underlying133 (show DataW.trod enc Try.prog W 0 (fun _ => true) true n 133 [c5] = some y5 from h5)
      obtain ⟨m0, l, hl⟩ := open_condsIn t
      simp at g0 g1 g2 g3 g4
      subst g0 g1 g2 g3 g4 g5
      refine ⟨(n0, n1, n2, n3, n4, A, len, cap), rfl, by unfold maxLen at sz0; exact sz0, by unfold maxLen at sz1; exact sz1, m0, ?_⟩
      by_cases hlen : len ≤ 1048576
      · exact ⟨l, fun h => (hl h).1, (hl hlen).2⟩
      · exact ⟨[], fun h => absurd h hlen, by simp⟩) h
  by_cases hle : len ≤ 1048576
  case neg => exact ⟨h1, [], fun h => absurd h hle⟩
  obtain ⟨hR, hok⟩ := h2 hle
  obtain ⟨l, hl, hp⟩ := choose_list R.length (fun k (j : Bl) => ∀ hk : k < R.length, BlOf (fun A n l => n ≤ 9223372036854775807 ∧ (n ≤ 1048576 → CondsIn W A n l)) R[k] j ∧ okBl j) (fun k hk => by
    obtain ⟨z0, z1, m0, l, hl1, hl2⟩ := hok _ (List.getElem_mem hk)
    exact ⟨(R[k].1, R[k].2.1, R[k].2.2.1, R[k].2.2.2.1, R[k].2.2.2.2.1, l), fun _ => ⟨⟨rfl, rfl, rfl, rfl, rfl, m0, hl1⟩, ⟨z0, z1, hl2⟩⟩⟩)
  refine ⟨h1, l, fun _ => ⟨⟨R, hR, hl.symm, fun k h3 h4 => (hp k h4 h3).1⟩, fun x hx => ?_⟩⟩
  obtain ⟨k, hk, rfl⟩ := List.getElem_of_mem hx
  exact (hp k hk (by omega)).2
end Go.Proofs.Ytajlfdofjegdjaa
