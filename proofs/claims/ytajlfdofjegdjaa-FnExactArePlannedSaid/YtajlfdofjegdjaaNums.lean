/- Rows of numbers of the call's own: made whole, read, written one by one. -/
import Derived.Test.YtajlfdofjegdjaaAppend
import Derived.OwnWalk
namespace Go.Proofs.Ytajlfdofjegdjaa
open Go.RowKit

/-- The row of numbers in block g. -/
def NumRow (w : World) (lo g n c : Nat) (l : List Int) : Prop := n = l.length ∧ w.ownsRow lo 3 1 (.slice (some ⟨g, 0, none⟩) n c) n (ints l)
section
variable {w w' : World} {lo g n c : Nat} {l : List Int}
theorem NumRow.cell (h : NumRow w lo g n c l) {j : Nat} (hj : j < l.length) : w.cell? ⟨g, j, none⟩ = some (.int .i64 l[j]) := by
  rw [h.2.cellAt j (by have := h.1; omega)]; simp [hj]
theorem NumRow.frozen (h : NumRow w lo g n c l) (j : Nat) : w.frozen? ⟨g, j, none⟩ = false := h.2.frozenAt j
theorem NumRow.set (h : NumRow w lo g n c l) (j : Nat) (x : Int) : NumRow (w.setCell ⟨g, j, none⟩ (.int .i64 x)) lo g n c (l.set j x) :=
  ⟨by simp [h.1], by rw [ints, List.map_set]; exact (h.2.stored j (.int .i64 x)).1⟩
theorem NumRow.far (h : NumRow w lo g n c l) {p : Addr} {v : Value} (hp : p.block ≠ g) : NumRow (w.setCell p v) lo g n c l := by
  refine ⟨h.1, ?_⟩
  refine h.2.kept (row := some p.block) ⟨rfl, rfl, rfl, by simp, fun k _ hk => heap_setCell_other w p k v (fun e => hk (by simp [e]))⟩ (.inr ?_)
  simp [Value.ownBlock]; exact fun h => hp h.symm
theorem NumRow.keep (h : NumRow w lo g n c l) (hb : Below w.heap.size w w') : NumRow w' lo g n c l := ⟨h.1, own_keep h.2 hb⟩
theorem NumRow.drew (h : NumRow w lo g n c l) : NumRow w.drew lo g n c l := h
theorem NumRow.drewN (h : NumRow w lo g n c l) (k : Nat) : NumRow (w.drewN k) lo g n c l := h.keep (below_drewN (Below.refl _ _) _)
theorem NumRow.lt (h : NumRow w lo g n c l) : lo ≤ g ∧ g < w.heap.size := own_lt h.2 _ rfl
theorem NumRow.len (h : NumRow w lo g n c l) : l.length = n := h.1.symm
theorem NumRow.ints (h : NumRow w lo g n c l) (hn : l.length ≤ 16777216) : IntsIn w (some ⟨g, 0, none⟩) n l := ⟨h.1, Sl.of_own h.2 (by have := h.1; omega)⟩
end
theorem below_in {w w1 : World} {b o : Nat} {v : Value} (hb : Below w.heap.size w w1) (h : b < w.heap.size) (hc : w.cell? ⟨b, o, none⟩ = some v) : w1.cell? ⟨b, o, none⟩ = some v := (hb.cell (p := ⟨b, o, none⟩) h).trans hc
theorem cell_far {w : World} {g i b j : Nat} {v : Value} (h : g ≠ b) : (w.setCell ⟨g, i, none⟩ v).cell? ⟨b, j, none⟩ = w.cell? ⟨b, j, none⟩ :=
  World.cell?_setCell_other _ _ _ _ (by intro e; injection e; contradiction)
theorem numRow_made {w : World} {lo g n : Nat} (h : w.ownsRow lo 3 1 (.slice (some ⟨g, 0, none⟩) n n) n (madeCells (Value.int .i64 0).cells (n * 1)).toList) : NumRow w lo g n n (List.replicate n 0) := by
  refine ⟨by simp, ?_⟩
  have e : (madeCells (Value.int .i64 0).cells (n * 1)).toList = ints (List.replicate n 0) := by
    rw [show (Value.int .i64 0).cells = #[.int .i64 0] by rfl, toList_madeCells_one, Nat.mul_one, ints, List.map_replicate]
  rw [← e]; exact h
theorem wpList_make_nums {w : World} {ops : Array Oper} {rest : List Oper} {o : Oper} {a : Act} {Q : Exit → Act → World → Prop}
    (hg : o.guard = none) (l c : Operand) (hop : o.op = Op.makeSlice 24 l c) (base : Nat) {kl kc : IntKind} {L C : Int} (n : Nat) (hl : a.eval l = .int kl L) (hc : a.eval c = .int kc C) (hL : L = (n : Int)) (hC : C = (n : Int)) (hn : n ≤ 16777216) (b4 : base ≤ w.heap.size)
    (hK : ∀ w', NumRow w' base w.heap.size n n (List.replicate n 0) → Below w.heap.size w w' → w.heap.size < w'.heap.size → wpList Try.prog ops Q rest (a.put o.dst (.slice (some ⟨w.heap.size, 0, none⟩) n n)) w') :
    wpList Try.prog ops Q (o :: rest) a w := by
  obtain ⟨i0, hi0, hz0, hz1, hz2⟩ := info_parts intInfo
  refine wpList_make_full _ hg l c _ hop base 3 i0 _ 1 Try.underlying24 hi0 hz0 hz1 kl kc L C n hl hc hL hC (by rw [hz2]; omega) (by unfold maxLen; omega) b4 ?_
  intro w' h1 h2
  exact hK w' (numRow_made h1) (below_none h2) (own_lt (numRow_made h1).2 _ rfl).2
end Go.Proofs.Ytajlfdofjegdjaa
