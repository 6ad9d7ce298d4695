/- Work: its cells, and the walks of the laws' own helpers on lists of it. -/
import Derived.Test.YtmkfinahbelpdaaAppend
import Derived.StillTailTactics
import Derived.Test.YtmkfinahbelpdaaMarkText
namespace Go.Proofs.Ytmkfinahbelpdaa
open Go.RowKit

abbrev Wk := ByteArray × Int
def wkF : Flat Wk := ⟨fun f => [.string (f.1), .int .i64 (f.2)], 2, fun _ => rfl⟩
abbrev WorksIn (w : World) (A : Option Addr) (n : Nat) (l : List Wk) : Prop := RowsIn wkF w A n l
theorem work_at {w : World} {A : Option Addr} {n : Nat} {l : List Wk} (h : WorksIn w A n l) {k : Nat} (hk : k < l.length) :
    ∃ b o, A = some ⟨b, o, none⟩ ∧ b < w.heap.size ∧ w.cell? ⟨b, o + k * 2, none⟩ = some (.string (l[k].1)) ∧ w.cell? ⟨b, o + k * 2 + 1, none⟩ = some (.int .i64 (l[k].2)) := by
  obtain ⟨b, o, e, hlt, hc⟩ := h.at_ hk
  exact ⟨b, o, e, hlt, hc 0 _ rfl, hc 1 _ rfl⟩
theorem workInfo : (Try.prog.info? 46).map (fun i => (i.zero, i.size, i.bytes)) = some (some (.agg #[.string ByteArray.empty, .int .i64 0]), 2, 24) := by kernel_rfl
theorem workElem : ElemOk wkF 42 46 := by
  obtain ⟨i, h1, h2, h3, h4⟩ := info_parts workInfo
  exact ⟨i, _, 24, Try.underlying42, h1, h2, h3, h4, rfl, by decide, by omega⟩
def okWk (x : Wk) : Prop := x.1.size ≤ 9223372036854775807
end Go.Proofs.Ytmkfinahbelpdaa
