/- Rows of the call's own that lie between two block numbers, and calls that write within such a range alone. -/
import Derived.Test.YtajlfdofjegdjaaKit
namespace Go.Proofs.Ytajlfdofjegdjaa
open Go.RowKit

/-- A row of the call's own, in a block between lo and hi. -/
def OwnAt (w : World) (lo hi : Nat) (e : TypeId) (sz : Nat) (A : Option Addr) (n c : Nat) (xs : List Value) : Prop :=
  w.ownsRow lo e sz (.slice A n c) n xs ∧ hi ≤ w.heap.size ∧ ∀ a, A = some a → a.block < hi
theorem own_lt {w : World} {lo : Nat} {e : TypeId} {sz n c : Nat} {A : Option Addr} {xs : List Value} (h : w.ownsRow lo e sz (.slice A n c) n xs) : ∀ a, A = some a → lo ≤ a.block ∧ a.block < w.heap.size := by
  intro a ha
  rcases h.2 with ⟨hv, _⟩ | ⟨g, cap, cur, hv, hlo, hg, _⟩
  · rw [ha] at hv; simp at hv
  · rw [ha] at hv
    have : a = ⟨g, 0, none⟩ := by injection hv with h1; injection h1
    subst this
    refine ⟨hlo, ?_⟩
    rcases Nat.lt_or_ge g w.heap.size with h1 | h1
    · exact h1
    · rw [Array.getElem?_eq_none h1] at hg; cases hg
theorem OwnAt.mk' {w : World} {lo : Nat} {e : TypeId} {sz n c : Nat} {A : Option Addr} {xs : List Value} (h : w.ownsRow lo e sz (.slice A n c) n xs) : OwnAt w lo w.heap.size e sz A n c xs :=
  ⟨h, Nat.le_refl _, fun a ha => (own_lt h a ha).2⟩

/-- Nothing of what was there is written, but for the blocks from lo up to hi. -/
structure Only (lo hi : Nat) (w w' : World) : Prop where
  os : w'.os = w.os
  tape : w'.tape = w.tape
  output : w'.output = w.output
  size : w.heap.size ≤ w'.heap.size
  block : ∀ k, k < w.heap.size → ¬ (lo ≤ k ∧ k < hi) → w'.heap[k]? = w.heap[k]?
theorem Only.of_grown {lo hi : Nat} {w w' : World} {row : Option Nat} (hg : w.grownBy w' row) (h : ∀ g, row = some g → lo ≤ g ∧ g < hi) : Only lo hi w w' :=
  ⟨hg.os, hg.tape, hg.output, hg.size, fun k hk hn => hg.block k hk (fun e => hn (h k e.symm))⟩
theorem Only.refl (lo hi : Nat) (w : World) : Only lo hi w w := ⟨rfl, rfl, rfl, Nat.le_refl _, fun _ _ _ => rfl⟩
theorem Only.trans {lo hi : Nat} {a b c : World} (h : Only lo hi a b) (k : Only lo hi b c) : Only lo hi a c :=
  ⟨k.os.trans h.os, k.tape.trans h.tape, k.output.trans h.output, Nat.le_trans h.size k.size, fun i hi hn => (k.block i (Nat.lt_of_lt_of_le hi h.size) hn).trans (h.block i hi hn)⟩
theorem Only.of_below {lo hi : Nat} {w w' : World} (h : Below w.heap.size w w') : Only lo hi w w' := ⟨h.os, h.tape, h.output, h.size, fun k hk _ => h.block k hk⟩
theorem below_only {B lo hi : Nat} {a b c : World} (h : Below B a b) (k : Only lo hi b c) (hB : B ≤ lo) (hb : B ≤ b.heap.size) : Below B a c :=
  ⟨k.os.trans h.os, k.tape.trans h.tape, k.output.trans h.output, Nat.le_trans h.size k.size, fun i hi => (k.block i (by omega) (by omega)).trans (h.block i hi)⟩
theorem own_only {w w' : World} {lo hi a b : Nat} {e : TypeId} {sz n c : Nat} {A : Option Addr} {xs : List Value} (h : OwnAt w lo hi e sz A n c xs) (ho : Only a b w w') (hd : hi ≤ a ∨ b ≤ lo) : OwnAt w' lo hi e sz A n c xs := by
  refine ⟨⟨h.1.1, ?_⟩, Nat.le_trans h.2.1 ho.size, h.2.2⟩
  rcases h.1.2 with h0 | ⟨g, cap, cur, hv, hlo, hg, hr⟩
  · exact .inl h0
  · refine .inr ⟨g, cap, cur, hv, hlo, ?_, hr⟩
    have hA : A = some ⟨g, 0, none⟩ := by injection hv
    have hlt : g < hi := h.2.2 _ hA
    have := h.2.1
    rw [ho.block g (by omega) (by omega)]; exact hg
theorem OwnAt.keep {w w' : World} {lo hi : Nat} {e : TypeId} {sz n c : Nat} {A : Option Addr} {xs : List Value} (h : OwnAt w lo hi e sz A n c xs) (hb : Below w.heap.size w w') : OwnAt w' lo hi e sz A n c xs :=
  ⟨own_keep h.1 hb, Nat.le_trans h.2.1 hb.size, h.2.2⟩

/-- The same of rows of flat structs. -/
def RowsAt {α : Type} (F : Flat α) (e : TypeId) (w : World) (lo hi : Nat) (A : Option Addr) (n c : Nat) (l : List α) : Prop := n = l.length ∧ OwnAt w lo hi e F.sz A n c (l.flatMap F.enc)
section
variable {α : Type} {F : Flat α} {e : TypeId} {w w' : World} {lo hi : Nat} {A : Option Addr} {n c : Nat} {l : List α}
theorem OwnRows.at_ (h : OwnRows F e w lo A n c l) : RowsAt F e w lo w.heap.size A n c l := ⟨h.1, OwnAt.mk' h.2⟩
theorem RowsAt.keep (h : RowsAt F e w lo hi A n c l) (hb : Below w.heap.size w w') : RowsAt F e w' lo hi A n c l := ⟨h.1, h.2.keep hb⟩
theorem RowsAt.only {a b : Nat} (h : RowsAt F e w lo hi A n c l) (ho : Only a b w w') (hd : hi ≤ a ∨ b ≤ lo) : RowsAt F e w' lo hi A n c l := ⟨h.1, own_only h.2 ho hd⟩
theorem RowsAt.rows (h : RowsAt F e w lo hi A n c l) (hn : l.length ≤ 16777216) : RowsIn F w A n l := ⟨h.1, Sl.of_own h.2.1 (by have := h.1; omega)⟩
theorem RowsAt.own (h : RowsAt F e w lo hi A n c l) : OwnRows F e w lo A n c l := ⟨h.1, h.2.1⟩
end
/-- And of rows of numbers. -/
def IntsAt (w : World) (lo hi : Nat) (A : Option Addr) (n c : Nat) (l : List Int) : Prop := n = l.length ∧ OwnAt w lo hi 3 1 A n c (ints l)
section
variable {w w' : World} {lo hi : Nat} {A : Option Addr} {n c : Nat} {l : List Int}
theorem OwnInts.at_ (h : OwnInts w lo A n c l) : IntsAt w lo w.heap.size A n c l := ⟨h.1, OwnAt.mk' h.2⟩
theorem IntsAt.keep (h : IntsAt w lo hi A n c l) (hb : Below w.heap.size w w') : IntsAt w' lo hi A n c l := ⟨h.1, h.2.keep hb⟩
theorem IntsAt.only {a b : Nat} (h : IntsAt w lo hi A n c l) (ho : Only a b w w') (hd : hi ≤ a ∨ b ≤ lo) : IntsAt w' lo hi A n c l := ⟨h.1, own_only h.2 ho hd⟩
theorem IntsAt.rows (h : IntsAt w lo hi A n c l) (hn : l.length ≤ 16777216) : IntsIn w A n l := ⟨h.1, Sl.of_own h.2.1 (by have := h.1; omega)⟩
theorem IntsAt.own (h : IntsAt w lo hi A n c l) : OwnInts w lo A n c l := ⟨h.1, h.2.1⟩
end
end Go.Proofs.Ytajlfdofjegdjaa
