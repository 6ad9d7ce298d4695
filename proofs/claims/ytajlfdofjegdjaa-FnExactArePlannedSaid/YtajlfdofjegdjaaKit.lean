/- Plain lemmas on memory: a slice that reads as a list of cells, and how such readings are kept. No program in sight but its row of types. -/
import Derived.WalkKit
import Derived.WalkSpells
import Derived.Laws.OwnMore
import Derived.Deep.Draws
import Derived.Lib.Hide
namespace Go.Proofs.Ytajlfdofjegdjaa
open Go.RowKit

theorem blk_add (a : Addr) (n : Nat) : (a.add n).block = a.block := by unfold Addr.add; split <;> rfl
theorem add_add (a : Addr) (i j : Nat) : (a.add i).add j = a.add (i + j) := by
  unfold Addr.add
  by_cases hi : i = 0 <;> by_cases hj : j = 0 <;> simp [hi, hj, Nat.add_assoc]
theorem add_zero (a : Addr) : a.add 0 = a := by simp [Addr.add]

/-- The slice whose parts are A, n reads as the cells xs, 'sz' of them an element, all in blocks that are there. -/
def Sl (w : World) (sz : Nat) (A : Option Addr) (n : Nat) (xs : List Value) : Prop :=
  xs.length = n * sz ∧ n ≤ 16777216 ∧ (0 < n → ∃ b o, A = some ⟨b, o, none⟩ ∧ b < w.heap.size ∧ ∀ j u, xs[j]? = some u → w.cell? ⟨b, o + j, none⟩ = some u)

section
variable {w w' : World} {sz n : Nat} {A : Option Addr} {xs : List Value}
theorem Sl.len (h : Sl w sz A n xs) : n ≤ 16777216 := h.2.1
theorem Sl.keep (h : Sl w sz A n xs) (hb : Below w.heap.size w w') : Sl w' sz A n xs :=
  ⟨h.1, h.2.1, fun hn => by
    obtain ⟨b, o, e, hlt, hc⟩ := h.2.2 hn
    exact ⟨b, o, e, Nat.lt_of_lt_of_le hlt hb.size, fun j u hu => (hb.cell (by exact hlt)).trans (hc j u hu)⟩⟩
theorem Sl.nil (w : World) (sz : Nat) (A : Option Addr) : Sl w sz A 0 [] := ⟨by simp, by omega, fun h => absurd h (by omega)⟩
end

/-- Below, from a smaller world on. -/
theorem below_on {w w1 w2 : World} (h : Below w.heap.size w w1) (k : Below w1.heap.size w1 w2) : Below w.heap.size w w2 :=
  h.trans (k.mono h.size)
theorem below_drewN {B : Nat} {a w : World} (h : Below B a w) (n : Nat) : Below B a (w.drewN n) := ⟨h.os, h.tape, h.output, h.size, h.block⟩
/-- Nothing but draws lies between. -/
def Drew (w w' : World) : Prop := ∃ q, w' = w.drewN q
theorem Drew.refl (w : World) : Drew w w := ⟨0, rfl⟩
theorem Drew.trans {a b c : World} (h : Drew a b) (k : Drew b c) : Drew a c := by
  obtain ⟨n, rfl⟩ := h
  obtain ⟨m, rfl⟩ := k
  exact ⟨n + m, by rw [World.drewN_drewN]⟩
theorem Drew.more {a b : World} (h : Drew a b) (n : Nat) : Drew a (b.drewN n) := h.trans ⟨n, rfl⟩
theorem Drew.one {a b : World} (h : Drew a b) : Drew a b.drew := h.trans ⟨1, rfl⟩
theorem Drew.below {a b : World} (h : Drew a b) (B : Nat) : Below B a b := by
  obtain ⟨n, rfl⟩ := h
  exact below_drewN (Below.refl _ _) n
theorem below_alloc (w : World) (o : Obj) : Below w.heap.size w (w.alloc o) := (Below.refl _ _).alloc (Nat.le_refl _) _

/-- A row of the call's own is kept by whatever leaves its block alone. -/
theorem own_keep {w w' : World} {lo : Nat} {e : TypeId} {sz n : Nat} {v : Value} {xs : List Value} (h : w.ownsRow lo e sz v n xs) (hb : Below w.heap.size w w') : w'.ownsRow lo e sz v n xs := by
  refine ⟨h.1, ?_⟩
  rcases h.2 with h0 | ⟨g, cap, cur, hv, hlo, hg, hr⟩
  · exact .inl h0
  · refine .inr ⟨g, cap, cur, hv, hlo, ?_, hr⟩
    have hlt : g < w.heap.size := by
      rcases Nat.lt_or_ge g w.heap.size with h1 | h1
      · exact h1
      · rw [Array.getElem?_eq_none h1] at hg; cases hg
    rw [hb.block g hlt]; exact hg
theorem own_lower {w : World} {lo lo' : Nat} {e : TypeId} {sz n : Nat} {v : Value} {xs : List Value} (h : w.ownsRow lo e sz v n xs) (hl : lo' ≤ lo) : w.ownsRow lo' e sz v n xs := by
  refine ⟨h.1, ?_⟩
  rcases h.2 with h0 | ⟨g, cap, cur, hv, hlo, hr⟩
  · exact .inl h0
  · exact .inr ⟨g, cap, cur, hv, Nat.le_trans hl hlo, hr⟩
theorem Sl.of_own {w : World} {lo : Nat} {e : TypeId} {sz n c : Nat} {A : Option Addr} {xs : List Value} (h : w.ownsRow lo e sz (.slice A n c) n xs) (hn : n ≤ 16777216) : Sl w sz A n xs := by
  refine ⟨h.1, hn, fun hpos => ?_⟩
  rcases h.2 with ⟨hv, h0⟩ | ⟨g, cap, cur, hv, _, hg, _⟩
  · omega
  · have hA : A = some ⟨g, 0, none⟩ := by injection hv
    subst hA
    refine ⟨g, 0, rfl, ?_, fun j u hu => ?_⟩
    · rcases Nat.lt_or_ge g w.heap.size with h1 | h1
      · exact h1
      · rw [Array.getElem?_eq_none h1] at hg; cases hg
    · have := h.cells (g := g) rfl j u hu
      rwa [Addr.add_lit] at this

theorem below_grown {B : Nat} {w w' : World} {row : Option Nat} (hg : w.grownBy w' row) (hB : B ≤ w.heap.size) (hr : ∀ g, row = some g → B ≤ g) : Below B w w' :=
  (Below.refl _ _).grown hg hB (fun k hk => hr k hk)
theorem below_none {w w' : World} (hg : w.grownBy w' none) : Below w.heap.size w w' := below_grown hg (Nat.le_refl _) (fun _ h => by cases h)
theorem ret_bool {a b : Bool} (h : a = b) : Ending.returned (.bool a) = .returned (.bool b) := by rw [h]
theorem ret_int {a b : Int} (h : a = b) : Ending.returned (.int .i64 a) = .returned (.int .i64 b) := by rw [h]
theorem all_take {α : Type} (l : List α) (p : α → Bool) (k : Nat) (h : k < l.length) : (l.take (k + 1)).all p = ((l.take k).all p && p l[k]) := by
  rw [List.take_succ_eq_append_getElem h, List.all_append]; simp
theorem all_false {α : Type} (l : List α) (p : α → Bool) (k : Nat) (h : k < l.length) (hf : p l[k] = false) : l.all p = false := by
  rw [List.all_eq_false]; exact ⟨_, List.getElem_mem h, by simp [hf]⟩

/-! Slices of numbers. -/
abbrev ints (l : List Int) : List Value := l.map (Value.int .i64)
def IntsIn (w : World) (A : Option Addr) (n : Nat) (l : List Int) : Prop := n = l.length ∧ Sl w 1 A n (ints l)
theorem IntsIn.keep {w w' : World} {A : Option Addr} {n : Nat} {l : List Int} (h : IntsIn w A n l) (hb : Below w.heap.size w w') : IntsIn w' A n l := ⟨h.1, h.2.keep hb⟩
theorem IntsIn.at_ {w : World} {A : Option Addr} {n : Nat} {l : List Int} (h : IntsIn w A n l) {k : Nat} (hk : k < l.length) :
    ∃ b o, A = some ⟨b, o, none⟩ ∧ b < w.heap.size ∧ w.cell? ⟨b, o + k, none⟩ = some (.int .i64 l[k]) := by
  obtain ⟨rfl, _, _, hc⟩ := h
  obtain ⟨b, o, e, hlt, hc⟩ := hc (by omega)
  exact ⟨b, o, e, hlt, hc k _ (by simp [hk])⟩
theorem IntsIn.len {w : World} {A : Option Addr} {n : Nat} {l : List Int} (h : IntsIn w A n l) : l.length ≤ 16777216 := by have := h.2.len; have := h.1; omega
/-- A row of numbers of the call's own: a slice of the block whose number is at least lo. -/
def OwnInts (w : World) (lo : Nat) (A : Option Addr) (n c : Nat) (l : List Int) : Prop := n = l.length ∧ w.ownsRow lo 3 1 (.slice A n c) n (ints l)
theorem OwnInts.ints {w : World} {lo : Nat} {A : Option Addr} {n c : Nat} {l : List Int} (h : OwnInts w lo A n c l) (hn : l.length ≤ 16777216) : IntsIn w A n l :=
  ⟨h.1, Sl.of_own h.2 (by have := h.1; omega)⟩
theorem OwnInts.keep {w w' : World} {lo : Nat} {A : Option Addr} {n c : Nat} {l : List Int} (h : OwnInts w lo A n c l) (hb : Below w.heap.size w w') : OwnInts w' lo A n c l :=
  ⟨h.1, own_keep h.2 hb⟩
/-- A row in which the first j cells are written already, the others hold what was there. -/
def fillC (zs xs : List Value) (j : Nat) : List Value := xs.take j ++ zs.drop j
theorem fillC_zero (zs xs : List Value) : fillC zs xs 0 = zs := by simp [fillC]
theorem fillC_all (zs xs : List Value) (h : zs.length = xs.length) : fillC zs xs xs.length = xs := by
  unfold fillC; rw [List.take_length, List.drop_eq_nil_of_le (by omega), List.append_nil]
theorem fillC_at (zs xs : List Value) (j : Nat) (hj : j ≤ xs.length) : (fillC zs xs j)[j]? = zs[j]? := by
  unfold fillC
  rw [List.getElem?_append_right (by simp; omega)]
  simp [Nat.min_eq_left hj]
theorem fillC_set (zs xs : List Value) (j : Nat) (u : Value) (hu : xs[j]? = some u) (h : zs.length = xs.length) : (fillC zs xs j).set j u = fillC zs xs (j + 1) := by
  have hj : j < xs.length := (List.getElem?_eq_some_iff.1 hu).1
  have hx : xs[j] = u := (List.getElem?_eq_some_iff.1 hu).2
  unfold fillC
  rw [List.set_append_right _ _ (by simp; omega), List.take_succ_eq_append_getElem hj, List.append_assoc]
  congr 1
  rw [show j - (xs.take j).length = 0 by simp; omega, List.drop_eq_getElem_cons (by omega), List.set_cons_zero, hx]
  rfl

/-! Slices of flat structs: each element is 'sz' cells. -/
theorem flatMap_at {α : Type} (enc : α → List Value) (sz : Nat) (henc : ∀ a, (enc a).length = sz) (l : List α) (k j : Nat) (hk : k < l.length) (hj : j < sz) :
    (l.flatMap enc)[k * sz + j]? = (enc l[k])[j]? := by
  induction l generalizing k with
  | nil => simp at hk
  | cons a l ih =>
    rw [List.flatMap_cons]
    cases k with
    | zero => rw [List.getElem?_append_left (by rw [henc]; omega)]; simp
    | succ k =>
      rw [List.getElem?_append_right (by rw [henc, Nat.succ_mul]; omega), henc, show (k + 1) * sz + j - sz = k * sz + j by rw [Nat.succ_mul]; omega]
      exact ih k (by simpa using hk)
theorem flatMap_len {α : Type} (enc : α → List Value) (sz : Nat) (henc : ∀ a, (enc a).length = sz) (l : List α) : (l.flatMap enc).length = l.length * sz := by
  induction l with
  | nil => simp
  | cons a l ih => rw [List.flatMap_cons, List.length_append, henc, ih, List.length_cons, Nat.succ_mul]; omega

/-- What a type of flat structs is: its cells, and how many. -/
structure Flat (α : Type) where
  enc : α → List Value
  sz : Nat
  len : ∀ a, (enc a).length = sz
def RowsIn {α : Type} (F : Flat α) (w : World) (A : Option Addr) (n : Nat) (l : List α) : Prop := n = l.length ∧ Sl w F.sz A n (l.flatMap F.enc)
section
variable {α : Type} {F : Flat α} {w w' : World} {A : Option Addr} {n : Nat} {l : List α}
theorem RowsIn.keep (h : RowsIn F w A n l) (hb : Below w.heap.size w w') : RowsIn F w' A n l := ⟨h.1, h.2.keep hb⟩
theorem RowsIn.len (h : RowsIn F w A n l) : l.length ≤ 16777216 := by have := h.2.len; have := h.1; omega
theorem RowsIn.at_ (h : RowsIn F w A n l) {k : Nat} (hk : k < l.length) :
    ∃ b o, A = some ⟨b, o, none⟩ ∧ b < w.heap.size ∧ ∀ j u, (F.enc l[k])[j]? = some u → w.cell? ⟨b, o + k * F.sz + j, none⟩ = some u := by
  obtain ⟨rfl, _, _, hc⟩ := h
  obtain ⟨b, o, e, hlt, hc⟩ := hc (by omega)
  refine ⟨b, o, e, hlt, fun j u hu => ?_⟩
  have hj : j < F.sz := by have := (List.getElem?_eq_some_iff.1 hu).1; rwa [F.len] at this
  rw [Nat.add_assoc]
  exact hc _ _ (by rw [flatMap_at F.enc F.sz F.len l k j hk hj, hu])
end
def OwnRows {α : Type} (F : Flat α) (e : TypeId) (w : World) (lo : Nat) (A : Option Addr) (n c : Nat) (l : List α) : Prop := n = l.length ∧ w.ownsRow lo e F.sz (.slice A n c) n (l.flatMap F.enc)
section
variable {α : Type} {F : Flat α} {e : TypeId} {w w' : World} {lo : Nat} {A : Option Addr} {n c : Nat} {l : List α}
theorem OwnRows.rows (h : OwnRows F e w lo A n c l) (hn : l.length ≤ 16777216) : RowsIn F w A n l := ⟨h.1, Sl.of_own h.2 (by have := h.1; omega)⟩
theorem OwnRows.keep (h : OwnRows F e w lo A n c l) (hb : Below w.heap.size w w') : OwnRows F e w' lo A n c l := ⟨h.1, own_keep h.2 hb⟩
theorem OwnRows.lower {lo' : Nat} (h : OwnRows F e w lo A n c l) (hl : lo' ≤ lo) : OwnRows F e w lo' A n c l := ⟨h.1, own_lower h.2 hl⟩
end
theorem OwnInts.lower {w : World} {lo lo' : Nat} {A : Option Addr} {n c : Nat} {l : List Int} (h : OwnInts w lo A n c l) (hl : lo' ≤ lo) : OwnInts w lo' A n c l := ⟨h.1, own_lower h.2 hl⟩
theorem own_cell {w : World} {lo : Nat} {e : TypeId} {sz n g c : Nat} {xs : List Value} (h : w.ownsRow lo e sz (.slice (some ⟨g, 0, none⟩) n c) n xs) (j : Nat) (hj : j < n * sz) :
    ∃ u, w.cell? ⟨g, j, none⟩ = some u ∧ w.frozen? ⟨g, j, none⟩ = false := by
  have hl := h.1
  exact ⟨xs[j]'(by omega), by rw [h.cellAt j hj, List.getElem?_eq_getElem (by omega)], h.frozenAt j⟩
end Go.Proofs.Ytajlfdofjegdjaa
