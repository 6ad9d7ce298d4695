/- Plain lemmas on memory: a slice that reads as a list of cells, and how such readings are kept. No program in sight but its row of types. -/
import Derived.WalkKit
import Derived.WalkSpells
import Derived.Laws.OwnMore
import Derived.Deep.Draws
import Derived.Lib.Hide
namespace Go.Proofs.Ytjndlahkmjpdcaa
open Go.RowKit

theorem blk_add (a : Addr) (n : Nat) : (a.add n).block = a.block := by unfold Addr.add; split <;> rfl
theorem add_add (a : Addr) (i j : Nat) : (a.add i).add j = a.add (i + j) := by
  unfold Addr.add
  by_cases hi : i = 0 <;> by_cases hj : j = 0 <;> simp [hi, hj, Nat.add_assoc]
theorem add_zero (a : Addr) : a.add 0 = a := by simp [Addr.add]

/-- The slice whose parts are A, n reads as the cells xs, 'sz' of them an element, all in blocks that are there. -/
def Sl (w : World) (sz : Nat) (A : Option Addr) (n : Nat) (xs : List Value) : Prop :=
  xs.length = n * sz ∧ n ≤ 16777216 ∧ (0 < n → ∃ ad, A = some ad ∧ ad.block < w.heap.size ∧ ∀ j u, xs[j]? = some u → w.cell? (ad.add j) = some u)

section
variable {w w' : World} {sz n : Nat} {A : Option Addr} {xs : List Value}
theorem Sl.len (h : Sl w sz A n xs) : n ≤ 16777216 := h.2.1
theorem Sl.keep (h : Sl w sz A n xs) (hb : Below w.heap.size w w') : Sl w' sz A n xs :=
  ⟨h.1, h.2.1, fun hn => by
    obtain ⟨ad, e, hlt, hc⟩ := h.2.2 hn
    exact ⟨ad, e, Nat.lt_of_lt_of_le hlt hb.size, fun j u hu => (hb.cell (by rw [blk_add]; exact hlt)).trans (hc j u hu)⟩⟩
theorem Sl.nil (w : World) (sz : Nat) (A : Option Addr) : Sl w sz A 0 [] := ⟨by simp, by omega, fun h => absurd h (by omega)⟩
end

/-- Below, from a smaller world on. -/
theorem below_on {w w1 w2 : World} (h : Below w.heap.size w w1) (k : Below w1.heap.size w1 w2) : Below w.heap.size w w2 :=
  h.trans (k.mono h.size)
theorem below_drewN {B : Nat} {a w : World} (h : Below B a w) (n : Nat) : Below B a (w.drewN n) := ⟨h.os, h.tape, h.output, h.size, h.block⟩
theorem below_alloc (w : World) (o : Obj) : Below w.heap.size w (w.alloc o) := (Below.refl _ _).alloc (Nat.le_refl _) _

/-- A row of the call's own is kept by whatever leaves its block alone. -/
theorem own_keep {w w' : World} {lo : Nat} {e : TypeId} {sz n : Nat} {v : Value} {xs : List Value} (h : w.ownsRow lo e sz v n xs) (hb : Below w.heap.size w w') : w'.ownsRow lo e sz v n xs := by
  refine ⟨h.1, ?_⟩
  rcases h.2 with h0 | ⟨g, cap, cur, hv, hlo, hg, hr⟩
  · exact .inl h0
  · refine .inr ⟨g, cap, cur, hv, hlo, ?_, hr⟩
    have hlt : g < w.heap.size := by
      rcases Nat.lt_or_ge g w.heap.size with h1 | h1
      · exact h1
      · rw [Array.getElem?_eq_none h1] at hg; cases hg
    rw [hb.block g hlt]; exact hg
theorem own_lower {w : World} {lo lo' : Nat} {e : TypeId} {sz n : Nat} {v : Value} {xs : List Value} (h : w.ownsRow lo e sz v n xs) (hl : lo' ≤ lo) : w.ownsRow lo' e sz v n xs := by
  refine ⟨h.1, ?_⟩
  rcases h.2 with h0 | ⟨g, cap, cur, hv, hlo, hr⟩
  · exact .inl h0
  · exact .inr ⟨g, cap, cur, hv, Nat.le_trans hl hlo, hr⟩
theorem Sl.of_own {w : World} {lo : Nat} {e : TypeId} {sz n c : Nat} {A : Option Addr} {xs : List Value} (h : w.ownsRow lo e sz (.slice A n c) n xs) (hn : n ≤ 16777216) : Sl w sz A n xs := by
  refine ⟨h.1, hn, fun hpos => ?_⟩
  rcases h.2 with ⟨hv, h0⟩ | ⟨g, cap, cur, hv, _, hg, _⟩
  · omega
  · have hA : A = some ⟨g, 0, none⟩ := by injection hv
    subst hA
    refine ⟨_, rfl, ?_, h.cells (g := g) rfl⟩
    rcases Nat.lt_or_ge g w.heap.size with h1 | h1
    · exact h1
    · rw [Array.getElem?_eq_none h1] at hg; cases hg

theorem below_grown {B : Nat} {w w' : World} {row : Option Nat} (hg : w.grownBy w' row) (hB : B ≤ w.heap.size) (hr : ∀ g, row = some g → B ≤ g) : Below B w w' :=
  (Below.refl _ _).grown hg hB (fun k hk => hr k hk)
theorem below_none {w w' : World} (hg : w.grownBy w' none) : Below w.heap.size w w' := below_grown hg (Nat.le_refl _) (fun _ h => by cases h)
theorem ret_bool {a b : Bool} (h : a = b) : Ending.returned (.bool a) = .returned (.bool b) := by rw [h]
theorem ret_int {a b : Int} (h : a = b) : Ending.returned (.int .i64 a) = .returned (.int .i64 b) := by rw [h]
theorem all_take {α : Type} (l : List α) (p : α → Bool) (k : Nat) (h : k < l.length) : (l.take (k + 1)).all p = ((l.take k).all p && p l[k]) := by
  rw [List.take_succ_eq_append_getElem h, List.all_append]; simp
theorem all_false {α : Type} (l : List α) (p : α → Bool) (k : Nat) (h : k < l.length) (hf : p l[k] = false) : l.all p = false := by
  rw [List.all_eq_false]; exact ⟨_, List.getElem_mem h, by simp [hf]⟩

/-! Slices of numbers. -/
abbrev ints (l : List Int) : List Value := l.map (Value.int .i64)
def IntsIn (w : World) (A : Option Addr) (n : Nat) (l : List Int) : Prop := n = l.length ∧ Sl w 1 A n (ints l)
theorem IntsIn.keep {w w' : World} {A : Option Addr} {n : Nat} {l : List Int} (h : IntsIn w A n l) (hb : Below w.heap.size w w') : IntsIn w' A n l := ⟨h.1, h.2.keep hb⟩
theorem IntsIn.at_ {w : World} {A : Option Addr} {n : Nat} {l : List Int} (h : IntsIn w A n l) {k : Nat} (hk : k < l.length) :
    ∃ ad, A = some ad ∧ ad.block < w.heap.size ∧ w.cell? (ad.add k) = some (.int .i64 l[k]) := by
  obtain ⟨rfl, _, _, hc⟩ := h
  obtain ⟨ad, e, hlt, hc⟩ := hc (by omega)
  exact ⟨ad, e, hlt, hc k _ (by simp [hk])⟩
theorem IntsIn.len {w : World} {A : Option Addr} {n : Nat} {l : List Int} (h : IntsIn w A n l) : l.length ≤ 16777216 := by have := h.2.len; have := h.1; omega
/-- A row of numbers of the call's own: a slice of the block whose number is at least lo. -/
def OwnInts (w : World) (lo : Nat) (A : Option Addr) (n c : Nat) (l : List Int) : Prop := n = l.length ∧ w.ownsRow lo 3 1 (.slice A n c) n (ints l)
theorem OwnInts.ints {w : World} {lo : Nat} {A : Option Addr} {n c : Nat} {l : List Int} (h : OwnInts w lo A n c l) (hn : l.length ≤ 16777216) : IntsIn w A n l :=
  ⟨h.1, Sl.of_own h.2 (by have := h.1; omega)⟩
theorem OwnInts.keep {w w' : World} {lo : Nat} {A : Option Addr} {n c : Nat} {l : List Int} (h : OwnInts w lo A n c l) (hb : Below w.heap.size w w') : OwnInts w' lo A n c l :=
  ⟨h.1, own_keep h.2 hb⟩
/-- A row in which the first j cells are written already, the others hold what was there. -/
def fillC (zs xs : List Value) (j : Nat) : List Value := xs.take j ++ zs.drop j
theorem fillC_zero (zs xs : List Value) : fillC zs xs 0 = zs := by simp [fillC]
theorem fillC_all (zs xs : List Value) (h : zs.length = xs.length) : fillC zs xs xs.length = xs := by
  unfold fillC; rw [List.take_length, List.drop_eq_nil_of_le (by omega), List.append_nil]
theorem fillC_at (zs xs : List Value) (j : Nat) (hj : j ≤ xs.length) : (fillC zs xs j)[j]? = zs[j]? := by
  unfold fillC
  rw [List.getElem?_append_right (by simp; omega)]
  simp [Nat.min_eq_left hj]
theorem fillC_set (zs xs : List Value) (j : Nat) (u : Value) (hu : xs[j]? = some u) (h : zs.length = xs.length) : (fillC zs xs j).set j u = fillC zs xs (j + 1) := by
  have hj : j < xs.length := (List.getElem?_eq_some_iff.1 hu).1
  have hx : xs[j] = u := (List.getElem?_eq_some_iff.1 hu).2
  unfold fillC
  rw [List.set_append_right _ _ (by simp; omega), List.take_succ_eq_append_getElem hj, List.append_assoc]
  congr 1
  rw [show j - (xs.take j).length = 0 by simp; omega, List.drop_eq_getElem_cons (by omega), List.set_cons_zero, hx]
  rfl
end Go.Proofs.Ytjndlahkmjpdcaa
