/- Part 1 of the texts of this claim: Plain lemmas on memory: a slice that reads as a list of cells, and how such readings are kept. No program in sight but its row of types; Rows of the call's own that lie between two block numbers, and calls that write within such a range alone; The walks of the small functions that all chapters use; What an append of one element does to a row of the call's own; The walks of the functions on flows that all later ones use. -/
import Derived.WalkKit
import Derived.WalkSpells
import Derived.Laws.OwnMore
import Derived.Deep.Draws
import Derived.Lib.Hide
import Derived.Test.YtpbibkjcjgggdaaChecked
import Derived.BigQuiet
import Derived.Deep.QuietTactic
import Derived.Deep.DeepFit
import Derived.StillTailTactics
/- Plain lemmas on memory: a slice that reads as a list of cells, and how such readings are kept. No program in sight but its row of types. -/
namespace Go.Proofs.Ytpbibkjcjgggdaa
open Go.RowKit

theorem blk_add (a : Addr) (n : Nat) : (a.add n).block = a.block := by unfold Addr.add; split <;> rfl
theorem add_add (a : Addr) (i j : Nat) : (a.add i).add j = a.add (i + j) := by
  unfold Addr.add
  by_cases hi : i = 0 <;> by_cases hj : j = 0 <;> simp [hi, hj, Nat.add_assoc]
theorem add_zero (a : Addr) : a.add 0 = a := by simp [Addr.add]

/-- The slice whose parts are A, n reads as the cells xs, 'sz' of them an element, all in blocks that are there. -/
def Sl (w : World) (sz : Nat) (A : Option Addr) (n : Nat) (xs : List Value) : Prop :=
  xs.length = n * sz ∧ n ≤ 16777216 ∧ (0 < n → ∃ b o, A = some ⟨b, o, none⟩ ∧ b < w.heap.size ∧ ∀ j u, xs[j]? = some u → w.cell? ⟨b, o + j, none⟩ = some u)

section
variable {w w' : World} {sz n : Nat} {A : Option Addr} {xs : List Value}
theorem Sl.len (h : Sl w sz A n xs) : n ≤ 16777216 := h.2.1
theorem Sl.keep (h : Sl w sz A n xs) (hb : Below w.heap.size w w') : Sl w' sz A n xs :=
  ⟨h.1, h.2.1, fun hn => by
    obtain ⟨b, o, e, hlt, hc⟩ := h.2.2 hn
    exact ⟨b, o, e, Nat.lt_of_lt_of_le hlt hb.size, fun j u hu => (hb.cell (by exact hlt)).trans (hc j u hu)⟩⟩
theorem Sl.nil (w : World) (sz : Nat) (A : Option Addr) : Sl w sz A 0 [] := ⟨by simp, by omega, fun h => absurd h (by omega)⟩
end

/-- Below, from a smaller world on. -/
theorem below_on {w w1 w2 : World} (h : Below w.heap.size w w1) (k : Below w1.heap.size w1 w2) : Below w.heap.size w w2 :=
  h.trans (k.mono h.size)
theorem below_drewN {B : Nat} {a w : World} (h : Below B a w) (n : Nat) : Below B a (w.drewN n) := ⟨h.os, h.tape, h.output, h.size, h.block⟩
/-- Nothing but draws lies between. -/
def Drew (w w' : World) : Prop := ∃ q, w' = w.drewN q
theorem Drew.refl (w : World) : Drew w w := ⟨0, rfl⟩
theorem Drew.trans {a b c : World} (h : Drew a b) (k : Drew b c) : Drew a c := by
  obtain ⟨n, rfl⟩ := h
  obtain ⟨m, rfl⟩ := k
  exact ⟨n + m, by rw [World.drewN_drewN]⟩
theorem Drew.more {a b : World} (h : Drew a b) (n : Nat) : Drew a (b.drewN n) := h.trans ⟨n, rfl⟩
theorem Drew.one {a b : World} (h : Drew a b) : Drew a b.drew := h.trans ⟨1, rfl⟩
theorem Drew.below {a b : World} (h : Drew a b) (B : Nat) : Below B a b := by
  obtain ⟨n, rfl⟩ := h
  exact below_drewN (Below.refl _ _) n
theorem below_alloc (w : World) (o : Obj) : Below w.heap.size w (w.alloc o) := (Below.refl _ _).alloc (Nat.le_refl _) _

/-- A row of the call's own is kept by whatever leaves its block alone. -/
theorem own_keep {w w' : World} {lo : Nat} {e : TypeId} {sz n : Nat} {v : Value} {xs : List Value} (h : w.ownsRow lo e sz v n xs) (hb : Below w.heap.size w w') : w'.ownsRow lo e sz v n xs := by
  refine ⟨h.1, ?_⟩
  rcases h.2 with h0 | ⟨g, cap, cur, hv, hlo, hg, hr⟩
  · exact .inl h0
  · refine .inr ⟨g, cap, cur, hv, hlo, ?_, hr⟩
    have hlt : g < w.heap.size := by
      rcases Nat.lt_or_ge g w.heap.size with h1 | h1
      · exact h1
      · rw [Array.getElem?_eq_none h1] at hg; cases hg
    rw [hb.block g hlt]; exact hg
theorem own_lower {w : World} {lo lo' : Nat} {e : TypeId} {sz n : Nat} {v : Value} {xs : List Value} (h : w.ownsRow lo e sz v n xs) (hl : lo' ≤ lo) : w.ownsRow lo' e sz v n xs := by
  refine ⟨h.1, ?_⟩
  rcases h.2 with h0 | ⟨g, cap, cur, hv, hlo, hr⟩
  · exact .inl h0
  · exact .inr ⟨g, cap, cur, hv, Nat.le_trans hl hlo, hr⟩
theorem Sl.of_own {w : World} {lo : Nat} {e : TypeId} {sz n c : Nat} {A : Option Addr} {xs : List Value} (h : w.ownsRow lo e sz (.slice A n c) n xs) (hn : n ≤ 16777216) : Sl w sz A n xs := by
  refine ⟨h.1, hn, fun hpos => ?_⟩
  rcases h.2 with ⟨hv, h0⟩ | ⟨g, cap, cur, hv, _, hg, _⟩
  · omega
  · have hA : A = some ⟨g, 0, none⟩ := by injection hv
    subst hA
    refine ⟨g, 0, rfl, ?_, fun j u hu => ?_⟩
    · rcases Nat.lt_or_ge g w.heap.size with h1 | h1
      · exact h1
      · rw [Array.getElem?_eq_none h1] at hg; cases hg
    · have := h.cells (g := g) rfl j u hu
      rwa [Addr.add_lit] at this

theorem below_grown {B : Nat} {w w' : World} {row : Option Nat} (hg : w.grownBy w' row) (hB : B ≤ w.heap.size) (hr : ∀ g, row = some g → B ≤ g) : Below B w w' :=
  (Below.refl _ _).grown hg hB (fun k hk => hr k hk)
theorem below_none {w w' : World} (hg : w.grownBy w' none) : Below w.heap.size w w' := below_grown hg (Nat.le_refl _) (fun _ h => by cases h)
theorem ret_bool {a b : Bool} (h : a = b) : Ending.returned (.bool a) = .returned (.bool b) := by rw [h]
theorem ret_int {a b : Int} (h : a = b) : Ending.returned (.int .i64 a) = .returned (.int .i64 b) := by rw [h]
theorem all_take {α : Type} (l : List α) (p : α → Bool) (k : Nat) (h : k < l.length) : (l.take (k + 1)).all p = ((l.take k).all p && p l[k]) := by
  rw [List.take_succ_eq_append_getElem h, List.all_append]; simp
theorem all_false {α : Type} (l : List α) (p : α → Bool) (k : Nat) (h : k < l.length) (hf : p l[k] = false) : l.all p = false := by
  rw [List.all_eq_false]; exact ⟨_, List.getElem_mem h, by simp [hf]⟩

/-! Slices of numbers. -/
abbrev ints (l : List Int) : List Value := l.map (Value.int .i64)
def IntsIn (w : World) (A : Option Addr) (n : Nat) (l : List Int) : Prop := n = l.length ∧ Sl w 1 A n (ints l)
theorem IntsIn.keep {w w' : World} {A : Option Addr} {n : Nat} {l : List Int} (h : IntsIn w A n l) (hb : Below w.heap.size w w') : IntsIn w' A n l := ⟨h.1, h.2.keep hb⟩
theorem IntsIn.at_ {w : World} {A : Option Addr} {n : Nat} {l : List Int} (h : IntsIn w A n l) {k : Nat} (hk : k < l.length) :
    ∃ b o, A = some ⟨b, o, none⟩ ∧ b < w.heap.size ∧ w.cell? ⟨b, o + k, none⟩ = some (.int .i64 l[k]) := by
  obtain ⟨rfl, _, _, hc⟩ := h
  obtain ⟨b, o, e, hlt, hc⟩ := hc (by omega)
  exact ⟨b, o, e, hlt, hc k _ (by simp [hk])⟩
theorem IntsIn.len {w : World} {A : Option Addr} {n : Nat} {l : List Int} (h : IntsIn w A n l) : l.length ≤ 16777216 := by have := h.2.len; have := h.1; omega
/-- A row of numbers of the call's own: a slice of the block whose number is at least lo. -/
def OwnInts (w : World) (lo : Nat) (A : Option Addr) (n c : Nat) (l : List Int) : Prop := n = l.length ∧ w.ownsRow lo 3 1 (.slice A n c) n (ints l)
theorem OwnInts.ints {w : World} {lo : Nat} {A : Option Addr} {n c : Nat} {l : List Int} (h : OwnInts w lo A n c l) (hn : l.length ≤ 16777216) : IntsIn w A n l :=
  ⟨h.1, Sl.of_own h.2 (by have := h.1; omega)⟩
theorem OwnInts.keep {w w' : World} {lo : Nat} {A : Option Addr} {n c : Nat} {l : List Int} (h : OwnInts w lo A n c l) (hb : Below w.heap.size w w') : OwnInts w' lo A n c l :=
  ⟨h.1, own_keep h.2 hb⟩
/-- A row in which the first j cells are written already, the others hold what was there. -/
def fillC (zs xs : List Value) (j : Nat) : List Value := xs.take j ++ zs.drop j
theorem fillC_zero (zs xs : List Value) : fillC zs xs 0 = zs := by simp [fillC]
theorem fillC_all (zs xs : List Value) (h : zs.length = xs.length) : fillC zs xs xs.length = xs := by
  unfold fillC; rw [List.take_length, List.drop_eq_nil_of_le (by omega), List.append_nil]
theorem fillC_at (zs xs : List Value) (j : Nat) (hj : j ≤ xs.length) : (fillC zs xs j)[j]? = zs[j]? := by
  unfold fillC
  rw [List.getElem?_append_right (by simp; omega)]
  simp [Nat.min_eq_left hj]
theorem fillC_set (zs xs : List Value) (j : Nat) (u : Value) (hu : xs[j]? = some u) (h : zs.length = xs.length) : (fillC zs xs j).set j u = fillC zs xs (j + 1) := by
  have hj : j < xs.length := (List.getElem?_eq_some_iff.1 hu).1
  have hx : xs[j] = u := (List.getElem?_eq_some_iff.1 hu).2
  unfold fillC
  rw [List.set_append_right _ _ (by simp; omega), List.take_succ_eq_append_getElem hj, List.append_assoc]
  congr 1
  rw [show j - (xs.take j).length = 0 by simp; omega, List.drop_eq_getElem_cons (by omega), List.set_cons_zero, hx]
  rfl

/-! Slices of flat structs: each element is 'sz' cells. -/
theorem flatMap_at {α : Type} (enc : α → List Value) (sz : Nat) (henc : ∀ a, (enc a).length = sz) (l : List α) (k j : Nat) (hk : k < l.length) (hj : j < sz) :
    (l.flatMap enc)[k * sz + j]? = (enc l[k])[j]? := by
  induction l generalizing k with
  | nil => simp at hk
  | cons a l ih =>
    rw [List.flatMap_cons]
    cases k with
    | zero => rw [List.getElem?_append_left (by rw [henc]; omega)]; simp
    | succ k =>
      rw [List.getElem?_append_right (by rw [henc, Nat.succ_mul]; omega), henc, show (k + 1) * sz + j - sz = k * sz + j by rw [Nat.succ_mul]; omega]
      exact ih k (by simpa using hk)
theorem flatMap_len {α : Type} (enc : α → List Value) (sz : Nat) (henc : ∀ a, (enc a).length = sz) (l : List α) : (l.flatMap enc).length = l.length * sz := by
  induction l with
  | nil => simp
  | cons a l ih => rw [List.flatMap_cons, List.length_append, henc, ih, List.length_cons, Nat.succ_mul]; omega

/-- What a type of flat structs is: its cells, and how many. -/
structure Flat (α : Type) where
  enc : α → List Value
  sz : Nat
  len : ∀ a, (enc a).length = sz
def RowsIn {α : Type} (F : Flat α) (w : World) (A : Option Addr) (n : Nat) (l : List α) : Prop := n = l.length ∧ Sl w F.sz A n (l.flatMap F.enc)
section
variable {α : Type} {F : Flat α} {w w' : World} {A : Option Addr} {n : Nat} {l : List α}
theorem RowsIn.keep (h : RowsIn F w A n l) (hb : Below w.heap.size w w') : RowsIn F w' A n l := ⟨h.1, h.2.keep hb⟩
theorem RowsIn.len (h : RowsIn F w A n l) : l.length ≤ 16777216 := by have := h.2.len; have := h.1; omega
theorem RowsIn.at_ (h : RowsIn F w A n l) {k : Nat} (hk : k < l.length) :
    ∃ b o, A = some ⟨b, o, none⟩ ∧ b < w.heap.size ∧ ∀ j u, (F.enc l[k])[j]? = some u → w.cell? ⟨b, o + k * F.sz + j, none⟩ = some u := by
  obtain ⟨rfl, _, _, hc⟩ := h
  obtain ⟨b, o, e, hlt, hc⟩ := hc (by omega)
  refine ⟨b, o, e, hlt, fun j u hu => ?_⟩
  have hj : j < F.sz := by have := (List.getElem?_eq_some_iff.1 hu).1; rwa [F.len] at this
  rw [Nat.add_assoc]
  exact hc _ _ (by rw [flatMap_at F.enc F.sz F.len l k j hk hj, hu])
end
def OwnRows {α : Type} (F : Flat α) (e : TypeId) (w : World) (lo : Nat) (A : Option Addr) (n c : Nat) (l : List α) : Prop := n = l.length ∧ w.ownsRow lo e F.sz (.slice A n c) n (l.flatMap F.enc)
section
variable {α : Type} {F : Flat α} {e : TypeId} {w w' : World} {lo : Nat} {A : Option Addr} {n c : Nat} {l : List α}
theorem OwnRows.rows (h : OwnRows F e w lo A n c l) (hn : l.length ≤ 16777216) : RowsIn F w A n l := ⟨h.1, Sl.of_own h.2 (by have := h.1; omega)⟩
theorem OwnRows.keep (h : OwnRows F e w lo A n c l) (hb : Below w.heap.size w w') : OwnRows F e w' lo A n c l := ⟨h.1, own_keep h.2 hb⟩
theorem OwnRows.lower {lo' : Nat} (h : OwnRows F e w lo A n c l) (hl : lo' ≤ lo) : OwnRows F e w lo' A n c l := ⟨h.1, own_lower h.2 hl⟩
end
theorem OwnInts.lower {w : World} {lo lo' : Nat} {A : Option Addr} {n c : Nat} {l : List Int} (h : OwnInts w lo A n c l) (hl : lo' ≤ lo) : OwnInts w lo' A n c l := ⟨h.1, own_lower h.2 hl⟩
theorem own_cell {w : World} {lo : Nat} {e : TypeId} {sz n g c : Nat} {xs : List Value} (h : w.ownsRow lo e sz (.slice (some ⟨g, 0, none⟩) n c) n xs) (j : Nat) (hj : j < n * sz) :
    ∃ u, w.cell? ⟨g, j, none⟩ = some u ∧ w.frozen? ⟨g, j, none⟩ = false := by
  have hl := h.1
  exact ⟨xs[j]'(by omega), by rw [h.cellAt j hj, List.getElem?_eq_getElem (by omega)], h.frozenAt j⟩
end Go.Proofs.Ytpbibkjcjgggdaa
/- Rows of the call's own that lie between two block numbers, and calls that write within such a range alone. -/
namespace Go.Proofs.Ytpbibkjcjgggdaa
open Go.RowKit

/-- A row of the call's own, in a block between lo and hi. -/
def OwnAt (w : World) (lo hi : Nat) (e : TypeId) (sz : Nat) (A : Option Addr) (n c : Nat) (xs : List Value) : Prop :=
  w.ownsRow lo e sz (.slice A n c) n xs ∧ hi ≤ w.heap.size ∧ ∀ a, A = some a → a.block < hi
theorem own_lt {w : World} {lo : Nat} {e : TypeId} {sz n c : Nat} {A : Option Addr} {xs : List Value} (h : w.ownsRow lo e sz (.slice A n c) n xs) : ∀ a, A = some a → lo ≤ a.block ∧ a.block < w.heap.size := by
  intro a ha
  rcases h.2 with ⟨hv, _⟩ | ⟨g, cap, cur, hv, hlo, hg, _⟩
  · rw [ha] at hv; simp at hv
  · rw [ha] at hv
    have : a = ⟨g, 0, none⟩ := by injection hv with h1; injection h1
    subst this
    refine ⟨hlo, ?_⟩
    rcases Nat.lt_or_ge g w.heap.size with h1 | h1
    · exact h1
    · rw [Array.getElem?_eq_none h1] at hg; cases hg
theorem OwnAt.mk' {w : World} {lo : Nat} {e : TypeId} {sz n c : Nat} {A : Option Addr} {xs : List Value} (h : w.ownsRow lo e sz (.slice A n c) n xs) : OwnAt w lo w.heap.size e sz A n c xs :=
  ⟨h, Nat.le_refl _, fun a ha => (own_lt h a ha).2⟩

/-- Nothing of what was there is written, but for the blocks from lo up to hi. -/
structure Only (lo hi : Nat) (w w' : World) : Prop where
  os : w'.os = w.os
  tape : w'.tape = w.tape
  output : w'.output = w.output
  size : w.heap.size ≤ w'.heap.size
  block : ∀ k, k < w.heap.size → ¬ (lo ≤ k ∧ k < hi) → w'.heap[k]? = w.heap[k]?
theorem Only.of_grown {lo hi : Nat} {w w' : World} {row : Option Nat} (hg : w.grownBy w' row) (h : ∀ g, row = some g → lo ≤ g ∧ g < hi) : Only lo hi w w' :=
  ⟨hg.os, hg.tape, hg.output, hg.size, fun k hk hn => hg.block k hk (fun e => hn (h k e.symm))⟩
theorem Only.refl (lo hi : Nat) (w : World) : Only lo hi w w := ⟨rfl, rfl, rfl, Nat.le_refl _, fun _ _ _ => rfl⟩
theorem Only.trans {lo hi : Nat} {a b c : World} (h : Only lo hi a b) (k : Only lo hi b c) : Only lo hi a c :=
  ⟨k.os.trans h.os, k.tape.trans h.tape, k.output.trans h.output, Nat.le_trans h.size k.size, fun i hi hn => (k.block i (Nat.lt_of_lt_of_le hi h.size) hn).trans (h.block i hi hn)⟩
theorem Only.of_below {lo hi : Nat} {w w' : World} (h : Below w.heap.size w w') : Only lo hi w w' := ⟨h.os, h.tape, h.output, h.size, fun k hk _ => h.block k hk⟩
theorem below_only {B lo hi : Nat} {a b c : World} (h : Below B a b) (k : Only lo hi b c) (hB : B ≤ lo) (hb : B ≤ b.heap.size) : Below B a c :=
  ⟨k.os.trans h.os, k.tape.trans h.tape, k.output.trans h.output, Nat.le_trans h.size k.size, fun i hi => (k.block i (by omega) (by omega)).trans (h.block i hi)⟩
theorem own_only {w w' : World} {lo hi a b : Nat} {e : TypeId} {sz n c : Nat} {A : Option Addr} {xs : List Value} (h : OwnAt w lo hi e sz A n c xs) (ho : Only a b w w') (hd : hi ≤ a ∨ b ≤ lo) : OwnAt w' lo hi e sz A n c xs := by
  refine ⟨⟨h.1.1, ?_⟩, Nat.le_trans h.2.1 ho.size, h.2.2⟩
  rcases h.1.2 with h0 | ⟨g, cap, cur, hv, hlo, hg, hr⟩
  · exact .inl h0
  · refine .inr ⟨g, cap, cur, hv, hlo, ?_, hr⟩
    have hA : A = some ⟨g, 0, none⟩ := by injection hv
    have hlt : g < hi := h.2.2 _ hA
    have := h.2.1
    rw [ho.block g (by omega) (by omega)]; exact hg
theorem OwnAt.keep {w w' : World} {lo hi : Nat} {e : TypeId} {sz n c : Nat} {A : Option Addr} {xs : List Value} (h : OwnAt w lo hi e sz A n c xs) (hb : Below w.heap.size w w') : OwnAt w' lo hi e sz A n c xs :=
  ⟨own_keep h.1 hb, Nat.le_trans h.2.1 hb.size, h.2.2⟩

/-- The same of rows of flat structs. -/
def RowsAt {α : Type} (F : Flat α) (e : TypeId) (w : World) (lo hi : Nat) (A : Option Addr) (n c : Nat) (l : List α) : Prop := n = l.length ∧ OwnAt w lo hi e F.sz A n c (l.flatMap F.enc)
section
variable {α : Type} {F : Flat α} {e : TypeId} {w w' : World} {lo hi : Nat} {A : Option Addr} {n c : Nat} {l : List α}
theorem OwnRows.at_ (h : OwnRows F e w lo A n c l) : RowsAt F e w lo w.heap.size A n c l := ⟨h.1, OwnAt.mk' h.2⟩
theorem RowsAt.keep (h : RowsAt F e w lo hi A n c l) (hb : Below w.heap.size w w') : RowsAt F e w' lo hi A n c l := ⟨h.1, h.2.keep hb⟩
theorem RowsAt.only {a b : Nat} (h : RowsAt F e w lo hi A n c l) (ho : Only a b w w') (hd : hi ≤ a ∨ b ≤ lo) : RowsAt F e w' lo hi A n c l := ⟨h.1, own_only h.2 ho hd⟩
theorem RowsAt.rows (h : RowsAt F e w lo hi A n c l) (hn : l.length ≤ 16777216) : RowsIn F w A n l := ⟨h.1, Sl.of_own h.2.1 (by have := h.1; omega)⟩
theorem RowsAt.own (h : RowsAt F e w lo hi A n c l) : OwnRows F e w lo A n c l := ⟨h.1, h.2.1⟩
end
/-- And of rows of numbers. -/
def IntsAt (w : World) (lo hi : Nat) (A : Option Addr) (n c : Nat) (l : List Int) : Prop := n = l.length ∧ OwnAt w lo hi 3 1 A n c (ints l)
section
variable {w w' : World} {lo hi : Nat} {A : Option Addr} {n c : Nat} {l : List Int}
theorem OwnInts.at_ (h : OwnInts w lo A n c l) : IntsAt w lo w.heap.size A n c l := ⟨h.1, OwnAt.mk' h.2⟩
theorem IntsAt.keep (h : IntsAt w lo hi A n c l) (hb : Below w.heap.size w w') : IntsAt w' lo hi A n c l := ⟨h.1, h.2.keep hb⟩
theorem IntsAt.only {a b : Nat} (h : IntsAt w lo hi A n c l) (ho : Only a b w w') (hd : hi ≤ a ∨ b ≤ lo) : IntsAt w' lo hi A n c l := ⟨h.1, own_only h.2 ho hd⟩
theorem IntsAt.rows (h : IntsAt w lo hi A n c l) (hn : l.length ≤ 16777216) : IntsIn w A n l := ⟨h.1, Sl.of_own h.2.1 (by have := h.1; omega)⟩
theorem IntsAt.own (h : IntsAt w lo hi A n c l) : OwnInts w lo A n c l := ⟨h.1, h.2.1⟩
end
end Go.Proofs.Ytpbibkjcjgggdaa
/- The walks of the small functions that all chapters use. -/
namespace Go.Proofs.Ytpbibkjcjgggdaa
open Go.RowKit

def inB (n a b : Int) : Bool := decide (a ≤ n ∧ n ≤ b)
theorem inB_iff {n a b : Int} : inB n a b = true ↔ a ≤ n ∧ n ≤ b := by simp [inB]
theorem inB_no {n a b : Int} : inB n a b = false ↔ ¬ (a ≤ n ∧ n ≤ b) := by simp [inB]
theorem in_any (n a b : Int) (w : World) : Calls Try.prog 51 #[.int .i64 n, .int .i64 a, .int .i64 b] w fun e w' => e = .returned (.bool (inB n a b)) ∧ w = w' := by
  by_cases h1 : a ≤ n <;> by_cases h2 : n ≤ b
  all_goals
    go_enter Try.func51, Try.ntmps51
    go_wp2
    go_ret
    exact ⟨ret_bool (by simp [inB, h1, h2]), rfl⟩
theorem l1In_any (n a b : Int) (w : World) : Calls Try.prog 35 #[.int .i64 n, .int .i64 a, .int .i64 b] w fun e w' => e = .returned (.bool (inB n a b)) ∧ w = w' := by
  by_cases h1 : a ≤ n <;> by_cases h2 : n ≤ b
  all_goals
    go_enter Try.func35, Try.ntmps35
    go_wp2
    go_ret
    exact ⟨ret_bool (by simp [inB, h1, h2]), rfl⟩
/-- How a call that only computes is met in a region that draws its order. -/
theorem quietS {P : Program} {f : FuncId} {args : Array Value} {w : World} {n : Nat} {v : Value} (h : ∀ W : World, Calls P f args W fun e w' => e = .returned v ∧ W = w') :
    Calls P f args (w.drewN n) fun e w'' => e = .returned v ∧ ∃ m, w'' = w.drewN m :=
  (h _).mono fun _ _ ⟨he, hm⟩ => ⟨he, n, hm.symm⟩
/-- The same of a call that draws. -/
theorem quietD {P : Program} {f : FuncId} {args : Array Value} {w : World} {n : Nat} {v : Value} (h : ∀ W : World, Drew w W → Calls P f args W fun e w' => e = .returned v ∧ Drew W w') :
    Calls P f args (w.drewN n) fun e w'' => e = .returned v ∧ ∃ m, w'' = w.drewN m :=
  (h _ ⟨n, rfl⟩).mono fun _ _ ⟨he, m, hm⟩ => ⟨he, n + m, by rw [hm, World.drewN_drewN]⟩
theorem intInfo : (Try.prog.info? 3).map (fun i => (i.zero, i.size, i.bytes)) = some (some (.int .i64 0), 1, 8) := by kernel_rfl
end Go.Proofs.Ytpbibkjcjgggdaa
/- What an append of one element does to a row of the call's own. -/
namespace Go.Proofs.Ytpbibkjcjgggdaa
open Go.RowKit
theorem own_form {w : World} {lo : Nat} {e : TypeId} {sz n : Nat} {v : Value} {xs : List Value} (h : w.ownsRow lo e sz v n xs) : ∃ A c, v = .slice A n c := by
  rcases h.2 with ⟨hv, h0⟩ | ⟨g, cap, cur, hv, _⟩
  · exact ⟨none, 0, by rw [hv, h0]⟩
  · exact ⟨_, _, hv⟩
theorem own_block {w : World} {lo : Nat} {e : TypeId} {sz n : Nat} {v : Value} {xs : List Value} (h : w.ownsRow lo e sz v n xs) : ∀ g, v.ownBlock = some g → lo ≤ g := by
  intro g hg
  rcases h.2 with ⟨hv, h0⟩ | ⟨g', cap, cur, hv, hlo, _⟩
  · rw [hv] at hg; simp [Value.ownBlock] at hg
  · rw [hv] at hg
    simp [Value.ownBlock] at hg
    omega
/-- A value that is a row of flat structs of the call's own. -/
def RowVal {α : Type} (F : Flat α) (e : TypeId) (w : World) (lo : Nat) (v : Value) (l : List α) : Prop := w.ownsRow lo e F.sz v l.length (l.flatMap F.enc)
section
variable {α : Type} {F : Flat α} {e : TypeId} {w w' : World} {lo : Nat} {v v' : Value} {l : List α}
theorem RowVal.form (h : RowVal F e w lo v l) : ∃ A c, v = .slice A l.length c ∧ OwnRows F e w lo A l.length c l := by
  obtain ⟨A, c, rfl⟩ := own_form h
  exact ⟨A, c, rfl, rfl, h⟩
theorem OwnRows.val {A : Option Addr} {n c : Nat} (h : OwnRows F e w lo A n c l) : RowVal F e w lo (.slice A n c) l := by
  obtain ⟨rfl, h⟩ := h
  exact h
theorem RowVal.keep (h : RowVal F e w lo v l) (hb : Below w.heap.size w w') : RowVal F e w' lo v l := own_keep h hb
theorem RowVal.alloc (h : RowVal F e w lo v l) (o : Obj) : RowVal F e (w.alloc o) lo v l := World.ownsRow.alloc h o
theorem RowVal.nil (w : World) (lo : Nat) : RowVal F e w lo (.slice none 0 0) [] := World.ownsRow_nil _ _ _ _
/-- Behind the append's law: what the row is now, and that nothing else has turned. -/
theorem RowVal.snoc {x : α} {xs : List Value} (hx : xs = F.enc x) (h : w'.ownsRow lo e F.sz v' (l.length + 1) (l.flatMap F.enc ++ xs)) : RowVal F e w' lo v' (l ++ [x]) := by
  subst hx
  unfold RowVal
  rw [List.length_append, List.flatMap_append]
  simpa using h
theorem RowVal.below {B : Nat} (h : RowVal F e w lo v l) (hg : w.grownBy w' v.ownBlock) (hB : B ≤ lo) (hw : B ≤ w.heap.size) : Below B w w' :=
  below_grown hg hw (fun g hgg => Nat.le_trans hB (own_block h g hgg))
end
theorem empty_own (w : World) (lo : Nat) (e : TypeId) (sz : Nat) (h : lo ≤ w.heap.size) : (w.alloc (.cells #[] e)).ownsRow lo e sz (.slice (some ⟨w.heap.size, 0, none⟩) 0 0) 0 [] :=
  World.ownsRow_lit w #[] 0 h (by unfold maxLen; omega) (by simp)

theorem empty_row {α : Type} {F : Flat α} {e : TypeId} {w : World} {lo H : Nat} (hH : w.heap.size = H) (h : lo ≤ w.heap.size) : RowVal F e (w.alloc (.cells #[] e)) lo (.slice (some ⟨H, 0, none⟩) 0 0) [] := by
  subst hH
  exact empty_own w lo e F.sz h

/-- What the program's table says of a slice type of flat structs. -/
def ElemOk {α : Type} (F : Flat α) (t e : TypeId) : Prop :=
  ∃ (i : TypeInfo) (z : Value) (bytes : Nat), Try.prog.underlying t = some (.slice e) ∧ Try.prog.info? e = some i ∧ i.zero = some z ∧ i.size = F.sz ∧ i.bytes = bytes ∧ z.cells.size = F.sz ∧ 0 < F.sz ∧ bytes ≤ 1000
theorem news_at {w : World} {H : Nat} (hH : w.heap.size = H) (cs : Array Value) (e : TypeId) : ∀ j u, cs.toList[j]? = some u → (w.alloc (.cells cs e)).cell? ((⟨H, 0, none⟩ : Addr).add j) = some u := by
  intro j u hu
  subst hH
  have h := heap_alloc_new w (.cells cs e)
  rw [Addr.add_lit, Nat.zero_add]
  unfold World.cell?
  simp only [h]
  simpa using hu
/-- out = append(out, x), out a row of the call's own, x a struct that has just been laid in a block of its own. -/
theorem wpList_append_one {α : Type} {F : Flat α} {t e : TypeId} (hE : ElemOk F t e) {w1 : World} {ops : Array Oper} {rest : List Oper} {o : Oper} {a : Act} {Q : Exit → Act → World → Prop} (hgd : o.guard = none) (s x : Operand)
    (ho : o.op = .call { callee := .builtin .append, args := #[s, x], argTypes := #[t, t] }) {lo : Nat} {v : Value} {l : List α} (hs : a.eval s = v) (hrow : RowVal F e w1 lo v l) (hlen : l.length ≤ 16777216)
    (y : α) (cs : Array Value) (hcs : cs.toList = F.enc y) (hone : ∀ u ∈ cs.toList, u.oneCell' = true) (H c : Nat) (hH : w1.heap.size = H) (hx : a.eval x = .slice (some ⟨H, 0, none⟩) 1 c) (hlo : lo ≤ w1.heap.size)
    (h : ∀ v' w', RowVal F e w' lo v' (l ++ [y]) → (∀ B, B ≤ lo → B ≤ w1.heap.size → Below B w1 w') → w1.heap.size < w'.heap.size → wpList Try.prog ops Q rest (a.put o.dst v') w') :
    wpList Try.prog ops Q (o :: rest) a (w1.alloc (.cells cs e)) := by
  obtain ⟨i, z, bytes, ht, hi, hz, hsz, hby, hzs, hpos, hbb⟩ := hE
  have hb2 : (l.length + 1) * bytes ≤ 140737488355328 := Nat.le_trans (Nat.mul_le_mul (show l.length + 1 ≤ 16777217 by omega) hbb) (by omega)
  refine wpList_append_own _ hgd s x t ho lo e i z F.sz bytes ht hi hz hsz hby hzs hpos v l.length (l.flatMap F.enc) hs (hrow.alloc _) ⟨H, 0, none⟩ 1 c cs.toList hx (by rw [hcs, F.len, Nat.one_mul]) (news_at hH cs e) hone (by unfold maxLen; omega) hb2 (by simp; omega) (fun v' w' h2 h3 _ => h v' w' (RowVal.snoc hcs h2) (fun B hB hB2 => ?_) ?_)
  · refine ((Below.refl B w1).alloc hB2 _).trans (below_grown h3 (by simp; omega) (fun g hg => Nat.le_trans hB (own_block hrow g hg)))
  · have := h3.size; simp at this; omega
end Go.Proofs.Ytpbibkjcjgggdaa
/- The walks of the functions on flows that all later ones use. -/
namespace Go.Proofs.Ytpbibkjcjgggdaa
open Go.RowKit

/-- A flow: its day and its quantity. -/
abbrev Fl := Int × Int
def flF : Flat Fl := ⟨fun f => [.int .i64 f.1, .int .i64 f.2], 2, fun _ => rfl⟩
abbrev FlowsIn (w : World) (A : Option Addr) (n : Nat) (l : List Fl) : Prop := RowsIn flF w A n l
theorem flow_at {w : World} {A : Option Addr} {n : Nat} {l : List Fl} (h : FlowsIn w A n l) {k : Nat} (hk : k < l.length) :
    ∃ b o, A = some ⟨b, o, none⟩ ∧ b < w.heap.size ∧ w.cell? ⟨b, o + k * 2, none⟩ = some (.int .i64 l[k].1) ∧ w.cell? ⟨b, o + k * 2 + 1, none⟩ = some (.int .i64 l[k].2) := by
  obtain ⟨b, o, e, hlt, hc⟩ := h.at_ hk
  exact ⟨b, o, e, hlt, hc 0 _ rfl, hc 1 _ rfl⟩

def okFlow (l : List Fl) (k : Nat) : Bool :=
  inB (l.getD k (0, 0)).1 0 999 && (inB (l.getD k (0, 0)).2 1 1000000000 && (decide (k = 0) || decide ((l.getD (k - 1) (0, 0)).1 < (l.getD k (0, 0)).1)))
def areFlows (l : List Fl) : Bool := (List.range l.length).all (okFlow l) && decide ((l.length : Int) ≤ 40)
theorem areFlows_no {l : List Fl} {k : Nat} (hk : k < l.length) (h : okFlow l k = false) : areFlows l = false := by
  unfold areFlows
  have : (List.range l.length).all (okFlow l) = false := by rw [List.all_eq_false]; exact ⟨k, by simpa using hk, by simp [h]⟩
  simp [this]
theorem areFlows_end {l : List Fl} (h : ∀ j < l.length, okFlow l j = true) : areFlows l = decide ((l.length : Int) ≤ 40) := by
  unfold areFlows
  have : (List.range l.length).all (okFlow l) = true := by rw [List.all_eq_true]; intro x hx; exact h x (by simpa using hx)
  simp [this]
theorem getD_at {α : Type} (l : List α) (k : Nat) (d : α) (h : k < l.length) : l.getD k d = l[k] := by
  rw [List.getD_eq_getElem?_getD, List.getElem?_eq_getElem h]; rfl


set_option maxRecDepth 100000 in
set_option maxHeartbeats 1000000 in
theorem specAreFlows_any (A : Option Addr) (n c : Nat) (l : List Fl) (w : World) (hl : FlowsIn w A n l) :
    Calls Try.prog 29 #[.slice A n c] w fun e w' => e = .returned (.bool (areFlows l)) ∧ Drew w w' := by
  have hn := hl.len
  obtain rfl := hl.1
  go_enter Try.func29, Try.ntmps29
  go_wp2
  go_loopw [3] (fun i wr => ∃ k : Nat, k ≤ l.length ∧ i = .int .i64 k ∧ Hid (∀ j < k, okFlow l j = true) ∧ Drew w wr) (fun i _ => l.length - (intOf i).toNat)
  case atStart => exact ⟨0, by omega, rfl, fun j h => absurd h (by omega), Drew.refl _⟩
  case round =>
    obtain ⟨k, hk, rfl, HI, HD⟩ := hrel
    by_cases hlt : k < l.length
    · obtain ⟨b, o, rfl, _, hc1, hc2⟩ := flow_at (hl.keep (HD.below _)) hlt
      have HG : Hid (l.getD k (0, 0) = l[k]) := getD_at _ _ _ hlt
      cases hd : inB l[k].1 0 999
      · go_wp2
        go_quiet ((go_at_call 35; exact quietS (l1In_any _ _ _)))
        go_wp2
        go_ret
        exact ⟨ret_bool (areFlows_no hlt (by unfold okFlow; rw [HG.out, hd]; rfl)).symm, HD.more _⟩
      cases hq : inB l[k].2 1 1000000000
      · go_wp2
        go_quiet ((go_at_call 35; exact quietS (l1In_any _ _ _)))
        go_wp2
        go_ret
        exact ⟨ret_bool (areFlows_no hlt (by unfold okFlow; rw [HG.out, hd, hq]; rfl)).symm, HD.more _⟩
      have hnext : ∀ hb : okFlow l k = true, ∀ j < k + 1, okFlow l j = true := fun hb j hj => by
        rcases Nat.lt_or_ge j k with h1 | h1
        · exact HI.out j h1
        · rw [show j = k by omega]; exact hb
      have HX := Lib.hid hnext; clear hnext
      by_cases h0 : k = 0
      · have hz1 : decide (0 < k) = false := by simp; omega
        have hz2 : decide ((0 : Int) < (k : Int)) = false := by simp; omega
        have H0 := Lib.hid h0; clear h0
        go_wp2
        go_quiet ((go_at_call 35; exact quietS (l1In_any _ _ _)))
        go_wp2
        go_roundw
        case rel => exact ⟨k + 1, by omega, by go_num, HX.out (by unfold okFlow; rw [HG.out, hd, hq]; simp [H0.out]), HD.more _⟩
        case measure => simp [intOf]; omega
      · have hlt2 : k - 1 < l.length := by omega
        obtain ⟨b2, o2, e2, _, hc3, _⟩ := flow_at (hl.keep (HD.below _)) hlt2
        obtain ⟨rfl, rfl⟩ : b = b2 ∧ o = o2 := by simpa using e2
        have hz1 : decide (0 < k) = true := by simp; omega
        have hz2 : decide ((0 : Int) < (k : Int)) = true := by simp; omega
        have hi1 : (0 : Int) ≤ (k : Int) - 1 := by omega
        have hi2 : (k : Int) - 1 < (l.length : Int) := by omega
        have hi3 : ((k : Int) - 1).toNat = k - 1 := by omega
        have HG2 : Hid (l.getD (k - 1) (0, 0) = l[k - 1]) := getD_at _ _ _ hlt2
        by_cases hge : l[k - 1].1 < l[k].1
        · have hz3 : decide (l[k].1 ≤ l[k - 1].1) = false := by simp; omega
          go_wp2
          go_quiet ((go_at_call 35; exact quietS (l1In_any _ _ _)))
          go_wp2
          go_roundw
          case rel => exact ⟨k + 1, by omega, by go_num, HX.out (by unfold okFlow; rw [HG.out, HG2.out, hd, hq]; simp; exact .inr (by assumption)), HD.more _⟩
          case measure => simp [intOf]; omega
        · have hge2 : l[k].1 ≤ l[k - 1].1 := by omega
          have hz3 : decide (l[k].1 ≤ l[k - 1].1) = true := by simp; omega
          go_wp2
          go_quiet ((go_at_call 35; exact quietS (l1In_any _ _ _)))
          go_wp2
          go_ret
          exact ⟨ret_bool (areFlows_no hlt (by unfold okFlow; rw [HG.out, HG2.out, hd, hq]; simp; omega)).symm, HD.more _⟩
    · obtain rfl : k = l.length := by omega
      go_wp2
      go_ret
      exact ⟨ret_bool (areFlows_end HI.out).symm, HD⟩

set_option maxRecDepth 100000 in
set_option maxHeartbeats 1000000 in
theorem implAreFlows_any (A : Option Addr) (n c : Nat) (l : List Fl) (w : World) (hl : FlowsIn w A n l) :
    Calls Try.prog 22 #[.slice A n c] w fun e w' => e = .returned (.bool (areFlows l)) ∧ Below w.heap.size w w' := by
  have hn := hl.len
  obtain rfl := hl.1
  go_enter Try.func22, Try.ntmps22
  go_wp2
  go_loopw [7] (fun i wr => ∃ k : Nat, k ≤ l.length ∧ i = .int .i64 k ∧ Hid (∀ j < k, okFlow l j = true) ∧ Below w.heap.size w wr) (fun i _ => l.length - (intOf i).toNat)
  case atStart => exact ⟨0, by omega, rfl, fun j h => absurd h (by omega), Below.refl _ _⟩
  case round =>
    obtain ⟨k, hk, rfl, HI, HD⟩ := hrel
    by_cases hlt : k < l.length
    · obtain ⟨b, o, rfl, hb, hc1, hc2⟩ := flow_at (hl.keep HD) hlt
      have hsz := HD.size
      have HG : Hid (l.getD k (0, 0) = l[k]) := getD_at _ _ _ hlt
      cases hd : inB l[k].1 0 999
      · go_wp2
        go_quiet ((go_at_call 51; exact quietS (in_any _ _ _)))
        go_wp2
        go_ret
        exact ⟨ret_bool (areFlows_no hlt (by unfold okFlow; rw [HG.out, hd]; rfl)).symm, below_drewN (HD.alloc (by omega) _) _⟩
      cases hq : inB l[k].2 1 1000000000
      · go_wp2
        go_quiet ((go_at_call 51; exact quietS (in_any _ _ _)))
        go_wp2
        go_ret
        exact ⟨ret_bool (areFlows_no hlt (by unfold okFlow; rw [HG.out, hd, hq]; rfl)).symm, below_drewN (HD.alloc (by omega) _) _⟩
      have hnext : ∀ hb : okFlow l k = true, ∀ j < k + 1, okFlow l j = true := fun hb j hj => by
        rcases Nat.lt_or_ge j k with h1 | h1
        · exact HI.out j h1
        · rw [show j = k by omega]; exact hb
      have HX := Lib.hid hnext; clear hnext
      by_cases h0 : k = 0
      · have hz1 : decide (0 < k) = false := by simp; omega
        have hz2 : decide ((0 : Int) < (k : Int)) = false := by simp; omega
        have H0 := Lib.hid h0; clear h0
        go_wp2
        go_quiet ((go_at_call 51; exact quietS (in_any _ _ _)))
        go_wp2
        go_roundw
        case rel => exact ⟨k + 1, by omega, by go_num, HX.out (by unfold okFlow; rw [HG.out, hd, hq]; simp [H0.out]), below_drewN (HD.alloc (by omega) _) _⟩
        case measure => simp [intOf]; omega
      · have hlt2 : k - 1 < l.length := by omega
        obtain ⟨b2, o2, e2, _, hc3, _⟩ := flow_at (hl.keep HD) hlt2
        obtain ⟨rfl, rfl⟩ : b = b2 ∧ o = o2 := by simpa using e2
        have hz1 : decide (0 < k) = true := by simp; omega
        have hz2 : decide ((0 : Int) < (k : Int)) = true := by simp; omega
        have hi1 : (0 : Int) ≤ (k : Int) - 1 := by omega
        have hi2 : (k : Int) - 1 < (l.length : Int) := by omega
        have hi3 : ((k : Int) - 1).toNat = k - 1 := by omega
        have HG2 : Hid (l.getD (k - 1) (0, 0) = l[k - 1]) := getD_at _ _ _ hlt2
        have hc4 := World.cell?_alloc_lt wr (.cells #[.int .i64 l[k].1, .int .i64 l[k].2] 53) ⟨b, o + (k - 1) * 2, none⟩ hb
        rw [hc3] at hc4
        by_cases hge : l[k - 1].1 < l[k].1
        · have hz3 : decide (l[k].1 ≤ l[k - 1].1) = false := by simp; omega
          go_wp2
          go_quiet ((go_at_call 51; exact quietS (in_any _ _ _)))
          go_wp2
          go_roundw
          case rel => exact ⟨k + 1, by omega, by go_num, HX.out (by unfold okFlow; rw [HG.out, HG2.out, hd, hq]; simp; exact .inr (by assumption)), below_drewN (HD.alloc (by omega) _) _⟩
          case measure => simp [intOf]; omega
        · have hge2 : l[k].1 ≤ l[k - 1].1 := by omega
          have hz3 : decide (l[k].1 ≤ l[k - 1].1) = true := by simp; omega
          go_wp2
          go_quiet ((go_at_call 51; exact quietS (in_any _ _ _)))
          go_wp2
          go_ret
          exact ⟨ret_bool (areFlows_no hlt (by unfold okFlow; rw [HG.out, HG2.out, hd, hq]; simp; omega)).symm, below_drewN (HD.alloc (by omega) _) _⟩
    · obtain rfl : k = l.length := by omega
      go_wp2
      go_ret
      exact ⟨ret_bool (areFlows_end HI.out).symm, HD⟩
end Go.Proofs.Ytpbibkjcjgggdaa
