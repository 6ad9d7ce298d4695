/- Slot: its cells, and the walks of the laws' own helpers on lists of it. -/
import Derived.Test.YtmkfinahbelpdaaAppend
import Derived.StillTailTactics
import Derived.Test.YtmkfinahbelpdaaMarkText
namespace Go.Proofs.Ytmkfinahbelpdaa
open Go.RowKit

abbrev Slt := Int × Int × ByteArray × Int × Int
def slF : Flat Slt := ⟨fun f => [.int .i64 (f.1), .int .i64 (f.2.1), .string (f.2.2.1), .int .i64 (f.2.2.2.1), .int .i64 (f.2.2.2.2)], 5, fun _ => rfl⟩
abbrev SlotsIn (w : World) (A : Option Addr) (n : Nat) (l : List Slt) : Prop := RowsIn slF w A n l
theorem slot_at {w : World} {A : Option Addr} {n : Nat} {l : List Slt} (h : SlotsIn w A n l) {k : Nat} (hk : k < l.length) :
    ∃ b o, A = some ⟨b, o, none⟩ ∧ b < w.heap.size ∧ w.cell? ⟨b, o + k * 5, none⟩ = some (.int .i64 (l[k].1)) ∧ w.cell? ⟨b, o + k * 5 + 1, none⟩ = some (.int .i64 (l[k].2.1)) ∧ w.cell? ⟨b, o + k * 5 + 2, none⟩ = some (.string (l[k].2.2.1)) ∧ w.cell? ⟨b, o + k * 5 + 3, none⟩ = some (.int .i64 (l[k].2.2.2.1)) ∧ w.cell? ⟨b, o + k * 5 + 4, none⟩ = some (.int .i64 (l[k].2.2.2.2)) := by
  obtain ⟨b, o, e, hlt, hc⟩ := h.at_ hk
  exact ⟨b, o, e, hlt, hc 0 _ rfl, hc 1 _ rfl, hc 2 _ rfl, hc 3 _ rfl, hc 4 _ rfl⟩
theorem slotInfo : (Try.prog.info? 84).map (fun i => (i.zero, i.size, i.bytes)) = some (some (.agg #[.int .i64 0, .int .i64 0, .string ByteArray.empty, .int .i64 0, .int .i64 0]), 5, 48) := by kernel_rfl
theorem slotElem : ElemOk slF 39 84 := by
  obtain ⟨i, h1, h2, h3, h4⟩ := info_parts slotInfo
  exact ⟨i, _, 48, Try.underlying39, h1, h2, h3, h4, rfl, by decide, by omega⟩
def okSlt (x : Slt) : Prop := x.2.2.1.size ≤ 9223372036854775807
end Go.Proofs.Ytmkfinahbelpdaa
