/- From the reading of a law's arguments to what the walks ask of them. -/
import Derived.Test.YtjndlahkmjpdcaaRows
import Derived.Test.YtjndlahkmjpdcaaPeriods
import Derived.ProofKit
import Derived.OpenShut
import Derived.ShutString
import Derived.ChangeOld
import Derived.Below
namespace Go.Proofs.Ytjndlahkmjpdcaa
open Go.ChangeShapes Go.WideShapes Go.ChangeAt Go.RowKit
theorem own : ownKnob Try.prog.godebug = none := by kernel_rfl
theorem laidOut : laidOutB Try.prog = true := by kernel_rfl
theorem lt_of_cell {w : World} {a : Addr} {v : Value} (h : w.cell? a = some v) : a.block < w.heap.size := by
  rcases Nat.lt_or_ge a.block w.heap.size with h1 | h1
  · exact h1
  · unfold World.cell? at h; rw [Array.getElem?_eq_none h1] at h; cases h

/-- A slice of numbers that came in. -/
theorem open_intsIn {H : Type} {enc : TypeId × Value → H} {W : World} {a : Option Addr} {len cap : Nat} {d : DataW H} {p : List MemPlace}
    (h : DataW.Trod enc Try.prog W 0 (fun _ => true) true 22 (.slice a len cap) d p) : len ≤ 9223372036854775807 ∧ ∃ l, len ≤ 1048576 → IntsIn W a len l := by
  obtain ⟨fuel, hf⟩ := h
  rcases open_ints Try.underlying22 Try.underlying3 (by kernel_rfl) hf with ⟨hcs, _⟩ | ⟨x, l, c, zs, hcs, _, hl, hm, hz, _, hcell, hwz⟩
  · simp [Value.cells] at hcs
    obtain ⟨rfl, rfl, rfl⟩ := hcs
    exact ⟨by omega, [], fun _ => ⟨rfl, Sl.nil _ _ _⟩⟩
  · simp [Value.cells] at hcs
    obtain ⟨rfl, rfl, rfl⟩ := hcs
    refine ⟨by unfold maxLen at hm; omega, zs.take len, fun hle => ⟨by simp at hz ⊢; omega, by simp at hz ⊢; omega, by omega, fun hpos => ⟨x, rfl, ?_, fun j u hu => ?_⟩⟩⟩
    · have := lt_of_cell (hcell 0 (by simp at hz; omega)); rw [blk_add] at this; exact this
    · have hj : j < (ints (zs.take len)).length := (List.getElem?_eq_some_iff.1 hu).1
      simp at hj
      have hc := hcell j (by omega)
      rw [hc, ← hu]
      have hj1 : j < len := by omega
      have hj2 : j < zs.length := by omega
      simp [hj1, List.getD_eq_getElem?_getD, List.getElem?_eq_getElem hj2]
end Go.Proofs.Ytjndlahkmjpdcaa
