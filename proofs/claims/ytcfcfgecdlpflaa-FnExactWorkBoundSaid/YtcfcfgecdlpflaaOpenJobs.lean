/- Lists of Job that came in. -/
import Derived.Test.YtcfcfgecdlpflaaOpenWorks
import Derived.Test.YtcfcfgecdlpflaaOpenSlice
import Derived.Test.YtcfcfgecdlpflaaJobTo
namespace Go.Proofs.Ytcfcfgecdlpflaa
open Go.ChangeShapes Go.WideShapes Go.ChangeAt Go.RowKit Go.Deep
set_option maxRecDepth 100000 in
theorem open_jobsIn {H : Type} {enc : TypeId × Value → H} {W : World} {a : Option Addr} {len cap : Nat} {d : DataW H} {p : List MemPlace}
    (h : DataW.Trod enc Try.prog W 0 (fun _ => true) true 37 (.slice a len cap) d p) : len ≤ 9223372036854775807 ∧ ∃ l, len ≤ 1048576 → JobPre W a len l ∧ ∀ x ∈ l, okJb x := by
  obtain ⟨h1, R, h2⟩ := open_rows_ok jbF (fun r => r.2.2.2.1 ≤ 9223372036854775807 ∧ ∃ l, (r.2.2.2.1 ≤ 1048576 → WorksIn W r.2.2.1 r.2.2.2.1 l) ∧ ∀ y ∈ l, okWk y) Try.underlying37 (by kernel_rfl) (by decide) (fun fuel cs x hx => by
    obtain ⟨hl, n, hf⟩ := struct_fields Try.underlying93 (by kernel_rfl) hx
    have hC : Try.prog.cellsOf 93 = 3 := by kernel_rfl
    rw [hC] at hl
    match cs, hl with
    | [c0, c1, c2], _ =>
      obtain ⟨v0, y0, e0, h0⟩ := hf 0 _ rfl
      obtain ⟨v1, y1, e1, h1⟩ := hf 1 _ rfl
      obtain ⟨v2, y2, e2, h2⟩ := hf 2 _ rfl
      subst e0 e1 e2
      obtain ⟨n0, g0, _⟩ := DataW.trod_int Try.underlying3 h0
      obtain ⟨n1, g1, _⟩ := DataW.trod_int Try.underlying3 h1
      obtain ⟨A, len, cap, g2, t⟩ := slice_of_trod Try.underlying91 (show DataW.trod enc Try.prog W 0 (fun _ => true) true n 91 [c2] = some y2 from h2)
      obtain ⟨m0, l, hl⟩ := open_worksIn t
      simp at g0 g1
      subst g0 g1 g2
      refine ⟨(n0, n1, A, len, cap), rfl,  m0, ?_⟩
      by_cases hlen : len ≤ 1048576
      · exact ⟨l, fun h => (hl h).1, (hl hlen).2⟩
      · exact ⟨[], fun h => absurd h hlen, by simp⟩) h
  by_cases hle : len ≤ 1048576
  case neg => exact ⟨h1, [], fun h => absurd h hle⟩
  obtain ⟨hR, hok⟩ := h2 hle
  obtain ⟨l, hl, hp⟩ := choose_list R.length (fun k (j : Jb) => ∀ hk : k < R.length, JbOf (fun A n l => n ≤ 9223372036854775807 ∧ (n ≤ 1048576 → WorksIn W A n l)) R[k] j ∧ okJb j) (fun k hk => by
    obtain ⟨m0, l, hl1, hl2⟩ := hok _ (List.getElem_mem hk)
    exact ⟨(R[k].1, R[k].2.1, l), fun _ => ⟨⟨rfl, rfl, m0, hl1⟩, hl2⟩⟩)
  refine ⟨h1, l, fun _ => ⟨⟨R, hR, hl.symm, fun k h3 h4 => (hp k h4 h3).1⟩, fun x hx => ?_⟩⟩
  obtain ⟨k, hk, rfl⟩ := List.getElem_of_mem hx
  exact (hp k hk (by omega)).2
end Go.Proofs.Ytcfcfgecdlpflaa
