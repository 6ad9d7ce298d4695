/- Part 1 of the texts of this claim: Plain lemmas on memory: a slice that reads as a list of cells, and how such readings are kept. No program in sight but its row of types; Levels of items (plain): edges are relaxed pass by pass; if n + 2 passes come to rest, n + 1 do; The walks of the small functions that all chapters use; The walks of IsCode; Rows of the call's own that lie between two block numbers, and calls that write within such a range alone; What an append of one element does to a row of the call's own; The walk of the laws' own marks that are texts: some text comes back; Item: its cells, and the walks of the laws' own helpers on lists of it. -/
import Derived.WalkKit
import Derived.WalkSpells
import Derived.Laws.OwnMore
import Derived.Deep.Draws
import Derived.Lib.Hide
import Derived.Test.YtlkolehdikfddaaChecked
import Derived.BigQuiet
import Derived.Deep.QuietTactic
import Derived.Deep.DeepFit
import Derived.Laws.BytesArg
import Derived.StillTailTactics
/- Plain lemmas on memory: a slice that reads as a list of cells, and how such readings are kept. No program in sight but its row of types. -/
namespace Go.Proofs.Ytlkolehdikfddaa
open Go.RowKit

theorem blk_add (a : Addr) (n : Nat) : (a.add n).block = a.block := by unfold Addr.add; split <;> rfl
theorem add_add (a : Addr) (i j : Nat) : (a.add i).add j = a.add (i + j) := by
  unfold Addr.add
  by_cases hi : i = 0 <;> by_cases hj : j = 0 <;> simp [hi, hj, Nat.add_assoc]
theorem add_zero (a : Addr) : a.add 0 = a := by simp [Addr.add]

/-- The slice whose parts are A, n reads as the cells xs, 'sz' of them an element, all in blocks that are there. -/
def Sl (w : World) (sz : Nat) (A : Option Addr) (n : Nat) (xs : List Value) : Prop :=
  xs.length = n * sz ∧ n ≤ 16777216 ∧ (0 < n → ∃ b o, A = some ⟨b, o, none⟩ ∧ b < w.heap.size ∧ ∀ j u, xs[j]? = some u → w.cell? ⟨b, o + j, none⟩ = some u)

section
variable {w w' : World} {sz n : Nat} {A : Option Addr} {xs : List Value}
theorem Sl.len (h : Sl w sz A n xs) : n ≤ 16777216 := h.2.1
theorem Sl.keep (h : Sl w sz A n xs) (hb : Below w.heap.size w w') : Sl w' sz A n xs :=
  ⟨h.1, h.2.1, fun hn => by
    obtain ⟨b, o, e, hlt, hc⟩ := h.2.2 hn
    exact ⟨b, o, e, Nat.lt_of_lt_of_le hlt hb.size, fun j u hu => (hb.cell (by exact hlt)).trans (hc j u hu)⟩⟩
theorem Sl.nil (w : World) (sz : Nat) (A : Option Addr) : Sl w sz A 0 [] := ⟨by simp, by omega, fun h => absurd h (by omega)⟩
end

/-- Below, from a smaller world on. -/
theorem below_on {w w1 w2 : World} (h : Below w.heap.size w w1) (k : Below w1.heap.size w1 w2) : Below w.heap.size w w2 :=
  h.trans (k.mono h.size)
theorem below_drewN {B : Nat} {a w : World} (h : Below B a w) (n : Nat) : Below B a (w.drewN n) := ⟨h.os, h.tape, h.output, h.size, h.block⟩
/-- Nothing but draws lies between. -/
def Drew (w w' : World) : Prop := ∃ q, w' = w.drewN q
theorem Drew.refl (w : World) : Drew w w := ⟨0, rfl⟩
theorem Drew.trans {a b c : World} (h : Drew a b) (k : Drew b c) : Drew a c := by
  obtain ⟨n, rfl⟩ := h
  obtain ⟨m, rfl⟩ := k
  exact ⟨n + m, by rw [World.drewN_drewN]⟩
theorem Drew.more {a b : World} (h : Drew a b) (n : Nat) : Drew a (b.drewN n) := h.trans ⟨n, rfl⟩
theorem Drew.one {a b : World} (h : Drew a b) : Drew a b.drew := h.trans ⟨1, rfl⟩
theorem Drew.below {a b : World} (h : Drew a b) (B : Nat) : Below B a b := by
  obtain ⟨n, rfl⟩ := h
  exact below_drewN (Below.refl _ _) n
theorem below_alloc (w : World) (o : Obj) : Below w.heap.size w (w.alloc o) := (Below.refl _ _).alloc (Nat.le_refl _) _

/-- A row of the call's own is kept by whatever leaves its block alone. -/
theorem own_keep {w w' : World} {lo : Nat} {e : TypeId} {sz n : Nat} {v : Value} {xs : List Value} (h : w.ownsRow lo e sz v n xs) (hb : Below w.heap.size w w') : w'.ownsRow lo e sz v n xs := by
  refine ⟨h.1, ?_⟩
  rcases h.2 with h0 | ⟨g, cap, cur, hv, hlo, hg, hr⟩
  · exact .inl h0
  · refine .inr ⟨g, cap, cur, hv, hlo, ?_, hr⟩
    have hlt : g < w.heap.size := by
      rcases Nat.lt_or_ge g w.heap.size with h1 | h1
      · exact h1
      · rw [Array.getElem?_eq_none h1] at hg; cases hg
    rw [hb.block g hlt]; exact hg
theorem own_lower {w : World} {lo lo' : Nat} {e : TypeId} {sz n : Nat} {v : Value} {xs : List Value} (h : w.ownsRow lo e sz v n xs) (hl : lo' ≤ lo) : w.ownsRow lo' e sz v n xs := by
  refine ⟨h.1, ?_⟩
  rcases h.2 with h0 | ⟨g, cap, cur, hv, hlo, hr⟩
  · exact .inl h0
  · exact .inr ⟨g, cap, cur, hv, Nat.le_trans hl hlo, hr⟩
theorem Sl.of_own {w : World} {lo : Nat} {e : TypeId} {sz n c : Nat} {A : Option Addr} {xs : List Value} (h : w.ownsRow lo e sz (.slice A n c) n xs) (hn : n ≤ 16777216) : Sl w sz A n xs := by
  refine ⟨h.1, hn, fun hpos => ?_⟩
  rcases h.2 with ⟨hv, h0⟩ | ⟨g, cap, cur, hv, _, hg, _⟩
  · omega
  · have hA : A = some ⟨g, 0, none⟩ := by injection hv
    subst hA
    refine ⟨g, 0, rfl, ?_, fun j u hu => ?_⟩
    · rcases Nat.lt_or_ge g w.heap.size with h1 | h1
      · exact h1
      · rw [Array.getElem?_eq_none h1] at hg; cases hg
    · have := h.cells (g := g) rfl j u hu
      rwa [Addr.add_lit] at this

theorem below_grown {B : Nat} {w w' : World} {row : Option Nat} (hg : w.grownBy w' row) (hB : B ≤ w.heap.size) (hr : ∀ g, row = some g → B ≤ g) : Below B w w' :=
  (Below.refl _ _).grown hg hB (fun k hk => hr k hk)
theorem below_none {w w' : World} (hg : w.grownBy w' none) : Below w.heap.size w w' := below_grown hg (Nat.le_refl _) (fun _ h => by cases h)
theorem ret_bool {a b : Bool} (h : a = b) : Ending.returned (.bool a) = .returned (.bool b) := by rw [h]
theorem ret_int {a b : Int} (h : a = b) : Ending.returned (.int .i64 a) = .returned (.int .i64 b) := by rw [h]
theorem all_take {α : Type} (l : List α) (p : α → Bool) (k : Nat) (h : k < l.length) : (l.take (k + 1)).all p = ((l.take k).all p && p l[k]) := by
  rw [List.take_succ_eq_append_getElem h, List.all_append]; simp
theorem all_false {α : Type} (l : List α) (p : α → Bool) (k : Nat) (h : k < l.length) (hf : p l[k] = false) : l.all p = false := by
  rw [List.all_eq_false]; exact ⟨_, List.getElem_mem h, by simp [hf]⟩

/-! Slices of numbers. -/
abbrev ints (l : List Int) : List Value := l.map (Value.int .i64)
def IntsIn (w : World) (A : Option Addr) (n : Nat) (l : List Int) : Prop := n = l.length ∧ Sl w 1 A n (ints l)
theorem IntsIn.keep {w w' : World} {A : Option Addr} {n : Nat} {l : List Int} (h : IntsIn w A n l) (hb : Below w.heap.size w w') : IntsIn w' A n l := ⟨h.1, h.2.keep hb⟩
theorem IntsIn.at_ {w : World} {A : Option Addr} {n : Nat} {l : List Int} (h : IntsIn w A n l) {k : Nat} (hk : k < l.length) :
    ∃ b o, A = some ⟨b, o, none⟩ ∧ b < w.heap.size ∧ w.cell? ⟨b, o + k, none⟩ = some (.int .i64 l[k]) := by
  obtain ⟨rfl, _, _, hc⟩ := h
  obtain ⟨b, o, e, hlt, hc⟩ := hc (by omega)
  exact ⟨b, o, e, hlt, hc k _ (by simp [hk])⟩
theorem IntsIn.len {w : World} {A : Option Addr} {n : Nat} {l : List Int} (h : IntsIn w A n l) : l.length ≤ 16777216 := by have := h.2.len; have := h.1; omega
/-- A row of numbers of the call's own: a slice of the block whose number is at least lo. -/
def OwnInts (w : World) (lo : Nat) (A : Option Addr) (n c : Nat) (l : List Int) : Prop := n = l.length ∧ w.ownsRow lo 3 1 (.slice A n c) n (ints l)
theorem OwnInts.ints {w : World} {lo : Nat} {A : Option Addr} {n c : Nat} {l : List Int} (h : OwnInts w lo A n c l) (hn : l.length ≤ 16777216) : IntsIn w A n l :=
  ⟨h.1, Sl.of_own h.2 (by have := h.1; omega)⟩
theorem OwnInts.keep {w w' : World} {lo : Nat} {A : Option Addr} {n c : Nat} {l : List Int} (h : OwnInts w lo A n c l) (hb : Below w.heap.size w w') : OwnInts w' lo A n c l :=
  ⟨h.1, own_keep h.2 hb⟩
/-- A row in which the first j cells are written already, the others hold what was there. -/
def fillC (zs xs : List Value) (j : Nat) : List Value := xs.take j ++ zs.drop j
/-! Slices of flat structs: each element is 'sz' cells. -/
theorem flatMap_at {α : Type} (enc : α → List Value) (sz : Nat) (henc : ∀ a, (enc a).length = sz) (l : List α) (k j : Nat) (hk : k < l.length) (hj : j < sz) :
    (l.flatMap enc)[k * sz + j]? = (enc l[k])[j]? := by
  induction l generalizing k with
  | nil => simp at hk
  | cons a l ih =>
    rw [List.flatMap_cons]
    cases k with
    | zero => rw [List.getElem?_append_left (by rw [henc]; omega)]; simp
    | succ k =>
      rw [List.getElem?_append_right (by rw [henc, Nat.succ_mul]; omega), henc, show (k + 1) * sz + j - sz = k * sz + j by rw [Nat.succ_mul]; omega]
      exact ih k (by simpa using hk)
theorem flatMap_len {α : Type} (enc : α → List Value) (sz : Nat) (henc : ∀ a, (enc a).length = sz) (l : List α) : (l.flatMap enc).length = l.length * sz := by
  induction l with
  | nil => simp
  | cons a l ih => rw [List.flatMap_cons, List.length_append, henc, ih, List.length_cons, Nat.succ_mul]; omega

/-- What a type of flat structs is: its cells, and how many. -/
structure Flat (α : Type) where
  enc : α → List Value
  sz : Nat
  len : ∀ a, (enc a).length = sz
def RowsIn {α : Type} (F : Flat α) (w : World) (A : Option Addr) (n : Nat) (l : List α) : Prop := n = l.length ∧ Sl w F.sz A n (l.flatMap F.enc)
section
variable {α : Type} {F : Flat α} {w w' : World} {A : Option Addr} {n : Nat} {l : List α}
theorem RowsIn.keep (h : RowsIn F w A n l) (hb : Below w.heap.size w w') : RowsIn F w' A n l := ⟨h.1, h.2.keep hb⟩
theorem RowsIn.len (h : RowsIn F w A n l) : l.length ≤ 16777216 := by have := h.2.len; have := h.1; omega
theorem RowsIn.at_ (h : RowsIn F w A n l) {k : Nat} (hk : k < l.length) :
    ∃ b o, A = some ⟨b, o, none⟩ ∧ b < w.heap.size ∧ ∀ j u, (F.enc l[k])[j]? = some u → w.cell? ⟨b, o + k * F.sz + j, none⟩ = some u := by
  obtain ⟨rfl, _, _, hc⟩ := h
  obtain ⟨b, o, e, hlt, hc⟩ := hc (by omega)
  refine ⟨b, o, e, hlt, fun j u hu => ?_⟩
  have hj : j < F.sz := by have := (List.getElem?_eq_some_iff.1 hu).1; rwa [F.len] at this
  rw [Nat.add_assoc]
  exact hc _ _ (by rw [flatMap_at F.enc F.sz F.len l k j hk hj, hu])
end
def OwnRows {α : Type} (F : Flat α) (e : TypeId) (w : World) (lo : Nat) (A : Option Addr) (n c : Nat) (l : List α) : Prop := n = l.length ∧ w.ownsRow lo e F.sz (.slice A n c) n (l.flatMap F.enc)
section
variable {α : Type} {F : Flat α} {e : TypeId} {w w' : World} {lo : Nat} {A : Option Addr} {n c : Nat} {l : List α}
theorem OwnRows.rows (h : OwnRows F e w lo A n c l) (hn : l.length ≤ 16777216) : RowsIn F w A n l := ⟨h.1, Sl.of_own h.2 (by have := h.1; omega)⟩
theorem OwnRows.keep (h : OwnRows F e w lo A n c l) (hb : Below w.heap.size w w') : OwnRows F e w' lo A n c l := ⟨h.1, own_keep h.2 hb⟩
theorem OwnRows.lower {lo' : Nat} (h : OwnRows F e w lo A n c l) (hl : lo' ≤ lo) : OwnRows F e w lo' A n c l := ⟨h.1, own_lower h.2 hl⟩
end
theorem OwnInts.lower {w : World} {lo lo' : Nat} {A : Option Addr} {n c : Nat} {l : List Int} (h : OwnInts w lo A n c l) (hl : lo' ≤ lo) : OwnInts w lo' A n c l := ⟨h.1, own_lower h.2 hl⟩
end Go.Proofs.Ytlkolehdikfddaa
/- Levels of items (plain): edges are relaxed pass by pass; if n + 2 passes come to rest, n + 1 do. -/
namespace Go.Proofs.Ytlkolehdikfddaa
/-- One edge is relaxed. -/
def passTo (E : List (Nat × Nat)) (s : List Nat) : Nat → List Nat × Bool
  | 0 => (s, false)
  | k + 1 => if (passTo E s k).1.getD (E.getD k (0, 0)).2 0 ≤ (passTo E s k).1.getD (E.getD k (0, 0)).1 0 then ((passTo E s k).1.set (E.getD k (0, 0)).2 ((passTo E s k).1.getD (E.getD k (0, 0)).1 0 + 1), true) else passTo E s k
/-- The state behind r passes, and whether pass r turns something. -/
def runTo (E : List (Nat × Nat)) (n : Nat) : Nat → List Nat
  | 0 => List.replicate n 0
  | r + 1 => (passTo E (runTo E n r) E.length).1
def turned (E : List (Nat × Nat)) (n r : Nat) : Bool := (passTo E (runTo E n r) E.length).2
theorem natD_set (m : List Nat) (d i : Nat) (x : Nat) (hd : d < m.length) : (m.set d x).getD i 0 = if d = i then x else m.getD i 0 := by
  rw [List.getD_eq_getElem?_getD, List.getElem?_set, List.getD_eq_getElem?_getD]
  by_cases h : d = i
  · subst h; rw [if_pos rfl, if_pos hd, if_pos rfl]; rfl
  · rw [if_neg h, if_neg h]
section
variable {E : List (Nat × Nat)} {n : Nat}
theorem passTo_len (s : List Nat) (k : Nat) : (passTo E s k).1.length = s.length := by
  induction k with
  | zero => rfl
  | succ k ih =>
    simp only [passTo]
    split
    · rw [List.length_set]; exact ih
    · exact ih
theorem runTo_len (r : Nat) : (runTo E n r).length = n := by
  induction r with
  | zero => simp [runTo]
  | succ r ih => simp only [runTo]; rw [passTo_len, ih]
/-- A level that is not 0 has an edge that holds it up. -/
def Held (E : List (Nat × Nat)) (s : List Nat) : Prop := ∀ v, 0 < s.getD v 0 → ∃ k, k < E.length ∧ (E.getD k (0, 0)).2 = v ∧ s.getD v 0 ≤ s.getD (E.getD k (0, 0)).1 0 + 1
theorem Held.pass (hE : ∀ k, k < E.length → (E.getD k (0, 0)).1 < n ∧ (E.getD k (0, 0)).2 < n) {s : List Nat} (hs : s.length = n) (h : Held E s) (k : Nat) (hk : k ≤ E.length) : Held E (passTo E s k).1 := by
  induction k with
  | zero => exact h
  | succ k ih =>
    have ih := ih (by omega)
    have hl := passTo_len (E := E) s k
    obtain ⟨e1, e2⟩ := hE k (by omega)
    simp only [passTo]
    split
    · next hle =>
      intro v hv
      rw [natD_set _ _ _ _ (by omega)] at hv ⊢
      by_cases hd : (E.getD k (0, 0)).2 = v
      · refine ⟨k, by omega, hd, ?_⟩
        rw [if_pos hd, natD_set _ _ _ _ (by omega)]
        split <;> omega
      · rw [if_neg hd] at hv ⊢
        obtain ⟨j, h1, h2, h3⟩ := ih v hv
        refine ⟨j, h1, h2, ?_⟩
        rw [natD_set _ _ _ _ (by omega)]
        split
        · next e => rw [← e] at h3; omega
        · exact h3
    · exact ih
theorem Held.run (hE : ∀ k, k < E.length → (E.getD k (0, 0)).1 < n ∧ (E.getD k (0, 0)).2 < n) (r : Nat) : Held E (runTo E n r) := by
  induction r with
  | zero =>
    intro v hv
    simp only [runTo] at hv
    rw [List.getD_eq_getElem?_getD, List.getElem?_replicate] at hv
    split at hv <;> simp at hv
  | succ r ih => exact ih.pass hE (runTo_len r) _ (Nat.le_refl _)
/-- No edge is left to relax. -/
def Rest (E : List (Nat × Nat)) (s : List Nat) : Prop := ∀ k, k < E.length → s.getD (E.getD k (0, 0)).1 0 < s.getD (E.getD k (0, 0)).2 0
theorem pass_rest (s : List Nat) (k : Nat) (hk : k ≤ E.length) (h : (passTo E s k).2 = false) : (passTo E s k).1 = s ∧ ∀ j, j < k → s.getD (E.getD j (0, 0)).1 0 < s.getD (E.getD j (0, 0)).2 0 := by
  induction k with
  | zero => exact ⟨rfl, fun j hj => by omega⟩
  | succ k ih =>
    simp only [passTo] at h ⊢
    split at h
    · cases h
    · next hle =>
      obtain ⟨h1, h2⟩ := ih (by omega) h
      rw [if_neg hle]
      refine ⟨h1, fun j hj => ?_⟩
      by_cases e : j = k
      · subst e; rw [h1] at hle; omega
      · exact h2 j (by omega)
/-- In a state at rest that is held up, the levels have no gap: there are fewer than n of them. -/
theorem rest_le (hE : ∀ k, k < E.length → (E.getD k (0, 0)).1 < n ∧ (E.getD k (0, 0)).2 < n) {s : List Nat} (hh : Held E s) (hr : Rest E s) (v : Nat) (hv : v < n) : s.getD v 0 < n := by
  have key : ∀ m v, v < n → s.getD v 0 = m → ∃ f : Nat → Nat, ∀ i, i ≤ m → f i < n ∧ s.getD (f i) 0 = i := by
    intro m
    induction m with
    | zero =>
      intro v hv h
      refine ⟨fun _ => v, fun i hi => ⟨hv, ?_⟩⟩
      obtain rfl : i = 0 := by omega
      exact h
    | succ m ih =>
      intro v hv h
      obtain ⟨k, h1, h2, h3⟩ := hh v (by omega)
      have h4 := hr k h1
      rw [h2] at h4
      obtain ⟨f, hf⟩ := ih (E.getD k (0, 0)).1 (hE k h1).1 (by omega)
      refine ⟨fun i => if i = m + 1 then v else f i, fun i hi => ?_⟩
      by_cases e : i = m + 1
      · subst e; simp only [if_true]; exact ⟨hv, h⟩
      · simp only [if_neg e]; exact hf i (by omega)
  obtain ⟨f, hf⟩ := key _ v hv rfl
  rcases Nat.lt_or_ge (s.getD v 0) n with h1 | h1
  · exact h1
  · exfalso
    -- n + 1 indices below n with different levels
    have hnd : ((List.range (n + 1)).map f).Nodup := by
      rw [List.Nodup, List.pairwise_map]
      refine List.Pairwise.imp_of_mem (fun {i j} hi hj hij e => ?_) List.pairwise_lt_range
      have a := (hf i (by have := List.mem_range.1 hi; omega)).2
      have b := (hf j (by have := List.mem_range.1 hj; omega)).2
      rw [e] at a
      omega
    have hlen : ∀ (N : Nat) (l : List Nat), l.Nodup → (∀ x ∈ l, x < N) → l.length ≤ N := by
      intro N
      induction N with
      | zero =>
        intro l _ h
        cases l with
        | nil => exact Nat.le_refl _
        | cons a t => exact absurd (h a (by simp)) (by omega)
      | succ N ih =>
        intro l hn h
        by_cases hm : N ∈ l
        · have h1 := ih (l.erase N) (hn.erase N) (fun x hx => by
            have h2 := (hn.mem_erase_iff).1 hx
            have := h x h2.2
            have := h2.1
            omega)
          rw [List.length_erase_of_mem hm] at h1
          omega
        · have h1 := ih l hn (fun x hx => by
            have := h x hx
            have h2 : x ≠ N := fun e => hm (e ▸ hx)
            omega)
          omega
    have := hlen n _ hnd (fun x hx => by
      obtain ⟨i, hi, rfl⟩ := List.mem_map.1 hx
      exact (hf i (by have := List.mem_range.1 hi; omega)).1)
    simp at this
    omega
/-- An edge of pass r that is not at rest starts at a level of at least r. -/
theorem pass_late (hE : ∀ k, k < E.length → (E.getD k (0, 0)).1 < n ∧ (E.getD k (0, 0)).2 < n) {s : List Nat} (hs : s.length = n) (r : Nat) (h : ∀ j, j < E.length → s.getD (E.getD j (0, 0)).1 0 < s.getD (E.getD j (0, 0)).2 0 ∨ r ≤ s.getD (E.getD j (0, 0)).1 0) (k : Nat) (hk : k ≤ E.length) :
    (∀ j, j < E.length → (passTo E s k).1.getD (E.getD j (0, 0)).1 0 < (passTo E s k).1.getD (E.getD j (0, 0)).2 0 ∨ (if j < k then r + 1 else r) ≤ (passTo E s k).1.getD (E.getD j (0, 0)).1 0) ∧ ((passTo E s k).2 = true → ∃ v, v < n ∧ r + 1 ≤ (passTo E s k).1.getD v 0) := by
  induction k with
  | zero => exact ⟨fun j hj => by rw [if_neg (by omega)]; exact h j hj, fun h => by cases h⟩
  | succ k ih =>
    obtain ⟨i1, i2⟩ := ih (by omega)
    have hl := passTo_len (E := E) s k
    obtain ⟨e1, e2⟩ := hE k (by omega)
    have ik := i1 k (by omega)
    rw [if_neg (by omega)] at ik
    simp only [passTo]
    split
    · next hle =>
      have hr : r ≤ (passTo E s k).1.getD (E.getD k (0, 0)).1 0 := by omega
      refine ⟨fun j hj => ?_, fun _ => ⟨(E.getD k (0, 0)).2, e2, by rw [natD_set _ _ _ _ (by omega), if_pos rfl]; omega⟩⟩
      rw [natD_set _ _ _ _ (by omega), natD_set _ _ _ _ (by omega)]
      have ij := i1 j hj
      by_cases c1 : (E.getD k (0, 0)).2 = (E.getD j (0, 0)).1
      · right
        rw [if_pos c1]
        split <;> omega
      · rw [if_neg c1]
        by_cases c2 : (E.getD k (0, 0)).2 = (E.getD j (0, 0)).2
        · rw [if_pos c2]
          by_cases ej : j = k
          · subst ej; left; omega
          · rw [← c2] at ij
            rcases ij with ij | ij
            · left; omega
            · right
              split at ij
              · rw [if_pos (by omega)]; exact ij
              · rw [if_neg (by omega)]; exact ij
        · rw [if_neg c2]
          by_cases ej : j = k
          · subst ej; exact absurd rfl c2
          · rcases ij with ij | ij
            · exact .inl ij
            · right
              split at ij
              · rw [if_pos (by omega)]; exact ij
              · rw [if_neg (by omega)]; exact ij
    · next hle =>
      refine ⟨fun j hj => ?_, i2⟩
      by_cases ej : j = k
      · subst ej; left; omega
      · have ij := i1 j hj
        rcases ij with ij | ij
        · exact .inl ij
        · right
          split at ij
          · rw [if_pos (by omega)]; exact ij
          · rw [if_neg (by omega)]; exact ij
theorem run_late (hE : ∀ k, k < E.length → (E.getD k (0, 0)).1 < n ∧ (E.getD k (0, 0)).2 < n) (r : Nat) : ∀ j, j < E.length → (runTo E n r).getD (E.getD j (0, 0)).1 0 < (runTo E n r).getD (E.getD j (0, 0)).2 0 ∨ r ≤ (runTo E n r).getD (E.getD j (0, 0)).1 0 := by
  induction r with
  | zero => exact fun j hj => .inr (Nat.zero_le _)
  | succ r ih =>
    intro j hj
    have := (pass_late hE (runTo_len r) r ih E.length (Nat.le_refl _)).1 j hj
    rw [if_pos hj] at this
    exact this
/-- If pass n + 1 turns nothing, pass n turned nothing. -/
theorem turned_one (hE : ∀ k, k < E.length → (E.getD k (0, 0)).1 < n ∧ (E.getD k (0, 0)).2 < n) (h : turned E n (n + 1) = false) : turned E n n = false := by
  cases ht : turned E n n
  · rfl
  · exfalso
    obtain ⟨v, hv, h1⟩ := (pass_late hE (runTo_len n) n (run_late hE n) E.length (Nat.le_refl _)).2 ht
    have h2 := pass_rest (E := E) (runTo E n (n + 1)) E.length (Nat.le_refl _) h
    have h3 := rest_le hE (Held.run hE (n + 1)) (fun k hk => h2.2 k hk) v hv
    have h4 : (runTo E n (n + 1)).getD v 0 = (passTo E (runTo E n n) E.length).1.getD v 0 := rfl
    omega
end
end Go.Proofs.Ytlkolehdikfddaa
/- The walks of the small functions that all chapters use. -/
namespace Go.Proofs.Ytlkolehdikfddaa
open Go.RowKit

def inB (n a b : Int) : Bool := decide (a ≤ n ∧ n ≤ b)
theorem inB_iff {n a b : Int} : inB n a b = true ↔ a ≤ n ∧ n ≤ b := by simp [inB]
theorem inB_no {n a b : Int} : inB n a b = false ↔ ¬ (a ≤ n ∧ n ≤ b) := by simp [inB]
theorem in_any (n a b : Int) (w : World) : Calls Try.prog 25 #[.int .i64 n, .int .i64 a, .int .i64 b] w fun e w' => e = .returned (.bool (inB n a b)) ∧ w = w' := by
  by_cases h1 : a ≤ n <;> by_cases h2 : n ≤ b
  all_goals
    go_enter Try.func25, Try.ntmps25
    go_wp2
    go_ret
    exact ⟨ret_bool (by simp [inB, h1, h2]), rfl⟩
theorem l1In_any (n a b : Int) (w : World) : Calls Try.prog 42 #[.int .i64 n, .int .i64 a, .int .i64 b] w fun e w' => e = .returned (.bool (inB n a b)) ∧ w = w' := by
  by_cases h1 : a ≤ n <;> by_cases h2 : n ≤ b
  all_goals
    go_enter Try.func42, Try.ntmps42
    go_wp2
    go_ret
    exact ⟨ret_bool (by simp [inB, h1, h2]), rfl⟩
/-- How a call that only computes is met in a region that draws its order. -/
theorem quietS {P : Program} {f : FuncId} {args : Array Value} {w : World} {n : Nat} {v : Value} (h : ∀ W : World, Calls P f args W fun e w' => e = .returned v ∧ W = w') :
    Calls P f args (w.drewN n) fun e w'' => e = .returned v ∧ ∃ m, w'' = w.drewN m :=
  (h _).mono fun _ _ ⟨he, hm⟩ => ⟨he, n, hm.symm⟩
theorem intInfo : (Try.prog.info? 3).map (fun i => (i.zero, i.size, i.bytes)) = some (some (.int .i64 0), 1, 8) := by kernel_rfl
end Go.Proofs.Ytlkolehdikfddaa
/- The walks of IsCode. -/
namespace Go.Proofs.Ytlkolehdikfddaa
open Go.RowKit
def codeCh (k : Nat) (c : Int) : Bool := decide ((65 ≤ c ∧ c ≤ 90) ∨ (k ≠ 0 ∧ ((48 ≤ c ∧ c ≤ 57) ∨ c = 45)))
def chAt (s : ByteArray) (k : Nat) : Int := ((s.data.toList.getD k 0).toNat : Int)
theorem chAt_at (s : ByteArray) (k : Nat) (h : k < s.size) : chAt s k = (s[k].toNat : Int) := by
  unfold chAt
  have h2 : k < s.data.toList.length := by simpa using h
  rw [List.getD_eq_getElem?_getD, List.getElem?_eq_getElem h2]
  rfl
def isCode (s : ByteArray) : Bool := (List.range s.size).all (fun k => codeCh k (chAt s k)) && decide ((1 : Int) ≤ (s.size : Int) ∧ (s.size : Int) ≤ 8)
theorem isCode_no {s : ByteArray} {k : Nat} (hk : k < s.size) (h : codeCh k (chAt s k) = false) : isCode s = false := by
  unfold isCode
  have : (List.range s.size).all (fun k => codeCh k (chAt s k)) = false := by
    rw [List.all_eq_false]; exact ⟨k, by simpa using hk, by simp [h]⟩
  rw [this, Bool.false_and]
theorem isCode_end {s : ByteArray} (h : ∀ j < s.size, codeCh j (chAt s j) = true) : isCode s = decide ((1 : Int) ≤ (s.size : Int) ∧ (s.size : Int) ≤ 8) := by
  unfold isCode
  have : (List.range s.size).all (fun k => codeCh k (chAt s k)) = true := by
    rw [List.all_eq_true]; intro k hk; exact h k (by simpa using hk)
  rw [this, Bool.true_and]
set_option maxRecDepth 100000 in
set_option maxHeartbeats 4000000 in
theorem specIsCode_any (s : ByteArray) (w : World) (hs : s.size ≤ 9223372036854775807) : Calls Try.prog 44 #[.string s] w fun e w' => e = .returned (.bool (isCode s)) ∧ w = w' := by
  go_enter Try.func44, Try.ntmps44
  go_wp2
  go_loop [3] (fun i => ∃ k : Nat, k ≤ s.size ∧ i = .int .i64 k ∧ Hid (∀ j < k, codeCh j (chAt s j) = true)) (fun i => s.size - (intOf i).toNat)
  case atStart => exact ⟨0, by omega, rfl, fun j h => absurd h (by omega)⟩
  case round =>
    obtain ⟨k, hk, rfl, HI⟩ := hrel
    by_cases hlt : k < s.size
    · have hch := chAt_at s k hlt
      have hb : s[k].toNat < 256 := UInt8.toNat_lt _
      have HX : Hid (codeCh k (s[k].toNat : Int) = true → ∀ j < k + 1, codeCh j (chAt s j) = true) := fun h j hj => by
        rcases Nat.lt_or_ge j k with h1 | h1
        · exact HI.out j h1
        · obtain rfl : j = k := by omega
          rw [hch]; exact h
      have HN : Hid (codeCh k (s[k].toNat : Int) = false → isCode s = false) := fun h => isCode_no hlt (by rw [hch]; exact h)
      clear hch
      by_cases h1 : (65 : Int) ≤ (s[k].toNat : Int) ∧ (s[k].toNat : Int) ≤ 90
      · obtain ⟨h1, h2⟩ := h1
        have HC : Hid (codeCh k (s[k].toNat : Int) = true) := decide_eq_true (.inl ⟨h1, h2⟩)
        go_wp2
        go_round
        case rel => exact ⟨k + 1, by omega, by go_num, HX.out HC.out⟩
        case measure => simp [intOf]; omega
      by_cases h0 : k = 0
      · have HC : Hid (codeCh k (s[k].toNat : Int) = false) := decide_eq_false (fun h => h.elim h1 (fun h => h.1 h0))
        subst h0
        by_cases h2 : (65 : Int) ≤ (s[0].toNat : Int)
        · have h7 : decide ((s[0].toNat : Int) ≤ 90) = false := decide_eq_false (fun h => h1 ⟨h2, h⟩)
          clear h1
          go_wp2
          go_ret
          exact ⟨ret_bool (HN.out HC.out).symm, rfl⟩
        · clear h1
          go_wp2
          go_ret
          exact ⟨ret_bool (HN.out HC.out).symm, rfl⟩
      · have hk0 : ((k : Int) == 0) = false := by rw [beq_eq_false_iff_ne]; omega
        have K0 := Lib.hid h0
        clear h0
        by_cases h3 : (s[k].toNat : Int) < 48
        · by_cases h5 : (s[k].toNat : Int) = 45
          · have HC : Hid (codeCh k (s[k].toNat : Int) = true) := decide_eq_true (.inr ⟨K0.out, .inr h5⟩)
            have h6 : ((s[k].toNat : Int) != 45) = false := by rw [bne_eq_false_iff_eq]; exact h5
            clear h5 h1
            go_wp2
            go_round
            case rel => exact ⟨k + 1, by omega, by go_num, HX.out HC.out⟩
            case measure => simp [intOf]; omega
          · have HC : Hid (codeCh k (s[k].toNat : Int) = false) := decide_eq_false (fun h => h.elim h1 (fun h => h.2.elim (fun h => by omega) h5))
            have h6 : ((s[k].toNat : Int) != 45) = true := by rw [bne_iff_ne]; exact h5
            clear h5 h1
            go_wp2
            go_ret
            exact ⟨ret_bool (HN.out HC.out).symm, rfl⟩
        · by_cases h4 : (s[k].toNat : Int) ≤ 57
          · have HC : Hid (codeCh k (s[k].toNat : Int) = true) := decide_eq_true (.inr ⟨K0.out, .inl ⟨by omega, h4⟩⟩)
            clear h1
            go_wp2
            go_round
            case rel => exact ⟨k + 1, by omega, by go_num, HX.out HC.out⟩
            case measure => simp [intOf]; omega
          · have HC : Hid (codeCh k (s[k].toNat : Int) = false) := decide_eq_false (fun h => h.elim h1 (fun h => h.2.elim (fun h => h4 h.2) (fun h => by omega)))
            have h6 : ((s[k].toNat : Int) != 45) = true := by rw [bne_iff_ne]; omega
            by_cases h2 : (65 : Int) ≤ (s[k].toNat : Int)
            · have h7 : decide ((s[k].toNat : Int) ≤ 90) = false := decide_eq_false (fun h => h1 ⟨h2, h⟩)
              clear h1
              go_wp2
              go_ret
              exact ⟨ret_bool (HN.out HC.out).symm, rfl⟩
            · clear h1
              go_wp2
              go_ret
              exact ⟨ret_bool (HN.out HC.out).symm, rfl⟩
    · obtain rfl : k = s.size := by omega
      have HE := Lib.hid (isCode_end HI.out)
      by_cases hl : (1 : Int) ≤ (s.size : Int)
      · by_cases hl2 : (s.size : Int) ≤ 8
        all_goals
          go_wp2
          go_ret
          exact ⟨ret_bool (by rw [HE.out]; simp [hl, hl2] <;> omega), rfl⟩
      · go_wp2
        go_ret
        exact ⟨ret_bool (by rw [HE.out]; simp; omega), rfl⟩
set_option maxRecDepth 100000 in
set_option maxHeartbeats 4000000 in
theorem implIsCode_any (s : ByteArray) (w : World) (hs : s.size ≤ 9223372036854775807) : Calls Try.prog 39 #[.string s] w fun e w' => e = .returned (.bool (isCode s)) ∧ w = w' := by
  go_enter Try.func39, Try.ntmps39
  go_wp2
  go_loop [3] (fun i => ∃ k : Nat, k ≤ s.size ∧ i = .int .i64 k ∧ Hid (∀ j < k, codeCh j (chAt s j) = true)) (fun i => s.size - (intOf i).toNat)
  case atStart => exact ⟨0, by omega, rfl, fun j h => absurd h (by omega)⟩
  case round =>
    obtain ⟨k, hk, rfl, HI⟩ := hrel
    by_cases hlt : k < s.size
    · have hch := chAt_at s k hlt
      have hb : s[k].toNat < 256 := UInt8.toNat_lt _
      have HX : Hid (codeCh k (s[k].toNat : Int) = true → ∀ j < k + 1, codeCh j (chAt s j) = true) := fun h j hj => by
        rcases Nat.lt_or_ge j k with h1 | h1
        · exact HI.out j h1
        · obtain rfl : j = k := by omega
          rw [hch]; exact h
      have HN : Hid (codeCh k (s[k].toNat : Int) = false → isCode s = false) := fun h => isCode_no hlt (by rw [hch]; exact h)
      clear hch
      by_cases h1 : (65 : Int) ≤ (s[k].toNat : Int) ∧ (s[k].toNat : Int) ≤ 90
      · obtain ⟨h1, h2⟩ := h1
        have HC : Hid (codeCh k (s[k].toNat : Int) = true) := decide_eq_true (.inl ⟨h1, h2⟩)
        go_wp2
        go_round
        case rel => exact ⟨k + 1, by omega, by go_num, HX.out HC.out⟩
        case measure => simp [intOf]; omega
      by_cases h0 : k = 0
      · have HC : Hid (codeCh k (s[k].toNat : Int) = false) := decide_eq_false (fun h => h.elim h1 (fun h => h.1 h0))
        subst h0
        by_cases h2 : (65 : Int) ≤ (s[0].toNat : Int)
        · have h7 : decide ((s[0].toNat : Int) ≤ 90) = false := decide_eq_false (fun h => h1 ⟨h2, h⟩)
          clear h1
          go_wp2
          go_ret
          exact ⟨ret_bool (HN.out HC.out).symm, rfl⟩
        · clear h1
          go_wp2
          go_ret
          exact ⟨ret_bool (HN.out HC.out).symm, rfl⟩
      · have hk0 : ((k : Int) == 0) = false := by rw [beq_eq_false_iff_ne]; omega
        have K0 := Lib.hid h0
        clear h0
        by_cases h3 : (s[k].toNat : Int) < 48
        · by_cases h5 : (s[k].toNat : Int) = 45
          · have HC : Hid (codeCh k (s[k].toNat : Int) = true) := decide_eq_true (.inr ⟨K0.out, .inr h5⟩)
            have h6 : ((s[k].toNat : Int) != 45) = false := by rw [bne_eq_false_iff_eq]; exact h5
            clear h5 h1
            go_wp2
            go_round
            case rel => exact ⟨k + 1, by omega, by go_num, HX.out HC.out⟩
            case measure => simp [intOf]; omega
          · have HC : Hid (codeCh k (s[k].toNat : Int) = false) := decide_eq_false (fun h => h.elim h1 (fun h => h.2.elim (fun h => by omega) h5))
            have h6 : ((s[k].toNat : Int) != 45) = true := by rw [bne_iff_ne]; exact h5
            clear h5 h1
            go_wp2
            go_ret
            exact ⟨ret_bool (HN.out HC.out).symm, rfl⟩
        · by_cases h4 : (s[k].toNat : Int) ≤ 57
          · have HC : Hid (codeCh k (s[k].toNat : Int) = true) := decide_eq_true (.inr ⟨K0.out, .inl ⟨by omega, h4⟩⟩)
            clear h1
            go_wp2
            go_round
            case rel => exact ⟨k + 1, by omega, by go_num, HX.out HC.out⟩
            case measure => simp [intOf]; omega
          · have HC : Hid (codeCh k (s[k].toNat : Int) = false) := decide_eq_false (fun h => h.elim h1 (fun h => h.2.elim (fun h => h4 h.2) (fun h => by omega)))
            have h6 : ((s[k].toNat : Int) != 45) = true := by rw [bne_iff_ne]; omega
            by_cases h2 : (65 : Int) ≤ (s[k].toNat : Int)
            · have h7 : decide ((s[k].toNat : Int) ≤ 90) = false := decide_eq_false (fun h => h1 ⟨h2, h⟩)
              clear h1
              go_wp2
              go_ret
              exact ⟨ret_bool (HN.out HC.out).symm, rfl⟩
            · clear h1
              go_wp2
              go_ret
              exact ⟨ret_bool (HN.out HC.out).symm, rfl⟩
    · obtain rfl : k = s.size := by omega
      have HE := Lib.hid (isCode_end HI.out)
      by_cases hl : (1 : Int) ≤ (s.size : Int)
      · by_cases hl2 : (s.size : Int) ≤ 8
        all_goals
          go_wp2
          go_ret
          exact ⟨ret_bool (by rw [HE.out]; simp [hl, hl2] <;> omega), rfl⟩
      · go_wp2
        go_ret
        exact ⟨ret_bool (by rw [HE.out]; simp; omega), rfl⟩
end Go.Proofs.Ytlkolehdikfddaa
/- Rows of the call's own that lie between two block numbers, and calls that write within such a range alone. -/
namespace Go.Proofs.Ytlkolehdikfddaa
open Go.RowKit

/-- A row of the call's own, in a block between lo and hi. -/
def OwnAt (w : World) (lo hi : Nat) (e : TypeId) (sz : Nat) (A : Option Addr) (n c : Nat) (xs : List Value) : Prop :=
  w.ownsRow lo e sz (.slice A n c) n xs ∧ hi ≤ w.heap.size ∧ ∀ a, A = some a → a.block < hi
theorem own_lt {w : World} {lo : Nat} {e : TypeId} {sz n c : Nat} {A : Option Addr} {xs : List Value} (h : w.ownsRow lo e sz (.slice A n c) n xs) : ∀ a, A = some a → lo ≤ a.block ∧ a.block < w.heap.size := by
  intro a ha
  rcases h.2 with ⟨hv, _⟩ | ⟨g, cap, cur, hv, hlo, hg, _⟩
  · rw [ha] at hv; simp at hv
  · rw [ha] at hv
    have : a = ⟨g, 0, none⟩ := by injection hv with h1; injection h1
    subst this
    refine ⟨hlo, ?_⟩
    rcases Nat.lt_or_ge g w.heap.size with h1 | h1
    · exact h1
    · rw [Array.getElem?_eq_none h1] at hg; cases hg
theorem OwnAt.mk' {w : World} {lo : Nat} {e : TypeId} {sz n c : Nat} {A : Option Addr} {xs : List Value} (h : w.ownsRow lo e sz (.slice A n c) n xs) : OwnAt w lo w.heap.size e sz A n c xs :=
  ⟨h, Nat.le_refl _, fun a ha => (own_lt h a ha).2⟩

/-- Nothing of what was there is written, but for the blocks from lo up to hi. -/
structure Only (lo hi : Nat) (w w' : World) : Prop where
  os : w'.os = w.os
  tape : w'.tape = w.tape
  output : w'.output = w.output
  size : w.heap.size ≤ w'.heap.size
  block : ∀ k, k < w.heap.size → ¬ (lo ≤ k ∧ k < hi) → w'.heap[k]? = w.heap[k]?
theorem Only.of_grown {lo hi : Nat} {w w' : World} {row : Option Nat} (hg : w.grownBy w' row) (h : ∀ g, row = some g → lo ≤ g ∧ g < hi) : Only lo hi w w' :=
  ⟨hg.os, hg.tape, hg.output, hg.size, fun k hk hn => hg.block k hk (fun e => hn (h k e.symm))⟩
theorem Only.refl (lo hi : Nat) (w : World) : Only lo hi w w := ⟨rfl, rfl, rfl, Nat.le_refl _, fun _ _ _ => rfl⟩
theorem Only.trans {lo hi : Nat} {a b c : World} (h : Only lo hi a b) (k : Only lo hi b c) : Only lo hi a c :=
  ⟨k.os.trans h.os, k.tape.trans h.tape, k.output.trans h.output, Nat.le_trans h.size k.size, fun i hi hn => (k.block i (Nat.lt_of_lt_of_le hi h.size) hn).trans (h.block i hi hn)⟩
theorem Only.of_below {lo hi : Nat} {w w' : World} (h : Below w.heap.size w w') : Only lo hi w w' := ⟨h.os, h.tape, h.output, h.size, fun k hk _ => h.block k hk⟩
theorem below_only {B lo hi : Nat} {a b c : World} (h : Below B a b) (k : Only lo hi b c) (hB : B ≤ lo) (hb : B ≤ b.heap.size) : Below B a c :=
  ⟨k.os.trans h.os, k.tape.trans h.tape, k.output.trans h.output, Nat.le_trans h.size k.size, fun i hi => (k.block i (by omega) (by omega)).trans (h.block i hi)⟩
theorem own_only {w w' : World} {lo hi a b : Nat} {e : TypeId} {sz n c : Nat} {A : Option Addr} {xs : List Value} (h : OwnAt w lo hi e sz A n c xs) (ho : Only a b w w') (hd : hi ≤ a ∨ b ≤ lo) : OwnAt w' lo hi e sz A n c xs := by
  refine ⟨⟨h.1.1, ?_⟩, Nat.le_trans h.2.1 ho.size, h.2.2⟩
  rcases h.1.2 with h0 | ⟨g, cap, cur, hv, hlo, hg, hr⟩
  · exact .inl h0
  · refine .inr ⟨g, cap, cur, hv, hlo, ?_, hr⟩
    have hA : A = some ⟨g, 0, none⟩ := by injection hv
    have hlt : g < hi := h.2.2 _ hA
    have := h.2.1
    rw [ho.block g (by omega) (by omega)]; exact hg
theorem OwnAt.keep {w w' : World} {lo hi : Nat} {e : TypeId} {sz n c : Nat} {A : Option Addr} {xs : List Value} (h : OwnAt w lo hi e sz A n c xs) (hb : Below w.heap.size w w') : OwnAt w' lo hi e sz A n c xs :=
  ⟨own_keep h.1 hb, Nat.le_trans h.2.1 hb.size, h.2.2⟩

/-- The same of rows of flat structs. -/
def RowsAt {α : Type} (F : Flat α) (e : TypeId) (w : World) (lo hi : Nat) (A : Option Addr) (n c : Nat) (l : List α) : Prop := n = l.length ∧ OwnAt w lo hi e F.sz A n c (l.flatMap F.enc)
section
variable {α : Type} {F : Flat α} {e : TypeId} {w w' : World} {lo hi : Nat} {A : Option Addr} {n c : Nat} {l : List α}
theorem OwnRows.at_ (h : OwnRows F e w lo A n c l) : RowsAt F e w lo w.heap.size A n c l := ⟨h.1, OwnAt.mk' h.2⟩
theorem RowsAt.keep (h : RowsAt F e w lo hi A n c l) (hb : Below w.heap.size w w') : RowsAt F e w' lo hi A n c l := ⟨h.1, h.2.keep hb⟩
theorem RowsAt.only {a b : Nat} (h : RowsAt F e w lo hi A n c l) (ho : Only a b w w') (hd : hi ≤ a ∨ b ≤ lo) : RowsAt F e w' lo hi A n c l := ⟨h.1, own_only h.2 ho hd⟩
theorem RowsAt.rows (h : RowsAt F e w lo hi A n c l) (hn : l.length ≤ 16777216) : RowsIn F w A n l := ⟨h.1, Sl.of_own h.2.1 (by have := h.1; omega)⟩
theorem RowsAt.own (h : RowsAt F e w lo hi A n c l) : OwnRows F e w lo A n c l := ⟨h.1, h.2.1⟩
end
/-- And of rows of numbers. -/
def IntsAt (w : World) (lo hi : Nat) (A : Option Addr) (n c : Nat) (l : List Int) : Prop := n = l.length ∧ OwnAt w lo hi 3 1 A n c (ints l)
section
variable {w w' : World} {lo hi : Nat} {A : Option Addr} {n c : Nat} {l : List Int}
theorem OwnInts.at_ (h : OwnInts w lo A n c l) : IntsAt w lo w.heap.size A n c l := ⟨h.1, OwnAt.mk' h.2⟩
theorem IntsAt.keep (h : IntsAt w lo hi A n c l) (hb : Below w.heap.size w w') : IntsAt w' lo hi A n c l := ⟨h.1, h.2.keep hb⟩
theorem IntsAt.only {a b : Nat} (h : IntsAt w lo hi A n c l) (ho : Only a b w w') (hd : hi ≤ a ∨ b ≤ lo) : IntsAt w' lo hi A n c l := ⟨h.1, own_only h.2 ho hd⟩
theorem IntsAt.rows (h : IntsAt w lo hi A n c l) (hn : l.length ≤ 16777216) : IntsIn w A n l := ⟨h.1, Sl.of_own h.2.1 (by have := h.1; omega)⟩
theorem IntsAt.own (h : IntsAt w lo hi A n c l) : OwnInts w lo A n c l := ⟨h.1, h.2.1⟩
end
end Go.Proofs.Ytlkolehdikfddaa
/- What an append of one element does to a row of the call's own. -/
namespace Go.Proofs.Ytlkolehdikfddaa
open Go.RowKit
theorem own_form {w : World} {lo : Nat} {e : TypeId} {sz n : Nat} {v : Value} {xs : List Value} (h : w.ownsRow lo e sz v n xs) : ∃ A c, v = .slice A n c := by
  rcases h.2 with ⟨hv, h0⟩ | ⟨g, cap, cur, hv, _⟩
  · exact ⟨none, 0, by rw [hv, h0]⟩
  · exact ⟨_, _, hv⟩
theorem own_block {w : World} {lo : Nat} {e : TypeId} {sz n : Nat} {v : Value} {xs : List Value} (h : w.ownsRow lo e sz v n xs) : ∀ g, v.ownBlock = some g → lo ≤ g := by
  intro g hg
  rcases h.2 with ⟨hv, h0⟩ | ⟨g', cap, cur, hv, hlo, _⟩
  · rw [hv] at hg; simp [Value.ownBlock] at hg
  · rw [hv] at hg
    simp [Value.ownBlock] at hg
    omega
/-- A value that is a row of flat structs of the call's own. -/
def RowVal {α : Type} (F : Flat α) (e : TypeId) (w : World) (lo : Nat) (v : Value) (l : List α) : Prop := w.ownsRow lo e F.sz v l.length (l.flatMap F.enc)
section
variable {α : Type} {F : Flat α} {e : TypeId} {w w' : World} {lo : Nat} {v v' : Value} {l : List α}
theorem RowVal.form (h : RowVal F e w lo v l) : ∃ A c, v = .slice A l.length c ∧ OwnRows F e w lo A l.length c l := by
  obtain ⟨A, c, rfl⟩ := own_form h
  exact ⟨A, c, rfl, rfl, h⟩
theorem OwnRows.val {A : Option Addr} {n c : Nat} (h : OwnRows F e w lo A n c l) : RowVal F e w lo (.slice A n c) l := by
  obtain ⟨rfl, h⟩ := h
  exact h
theorem RowVal.keep (h : RowVal F e w lo v l) (hb : Below w.heap.size w w') : RowVal F e w' lo v l := own_keep h hb
theorem RowVal.alloc (h : RowVal F e w lo v l) (o : Obj) : RowVal F e (w.alloc o) lo v l := World.ownsRow.alloc h o
theorem RowVal.nil (w : World) (lo : Nat) : RowVal F e w lo (.slice none 0 0) [] := World.ownsRow_nil _ _ _ _
/-- Behind the append's law: what the row is now, and that nothing else has turned. -/
theorem RowVal.snoc {x : α} {xs : List Value} (hx : xs = F.enc x) (h : w'.ownsRow lo e F.sz v' (l.length + 1) (l.flatMap F.enc ++ xs)) : RowVal F e w' lo v' (l ++ [x]) := by
  subst hx
  unfold RowVal
  rw [List.length_append, List.flatMap_append]
  simpa using h
theorem RowVal.below {B : Nat} (h : RowVal F e w lo v l) (hg : w.grownBy w' v.ownBlock) (hB : B ≤ lo) (hw : B ≤ w.heap.size) : Below B w w' :=
  below_grown hg hw (fun g hgg => Nat.le_trans hB (own_block h g hgg))
end
theorem empty_own (w : World) (lo : Nat) (e : TypeId) (sz : Nat) (h : lo ≤ w.heap.size) : (w.alloc (.cells #[] e)).ownsRow lo e sz (.slice (some ⟨w.heap.size, 0, none⟩) 0 0) 0 [] :=
  World.ownsRow_lit w #[] 0 h (by unfold maxLen; omega) (by simp)

theorem empty_row {α : Type} {F : Flat α} {e : TypeId} {w : World} {lo H : Nat} (hH : w.heap.size = H) (h : lo ≤ w.heap.size) : RowVal F e (w.alloc (.cells #[] e)) lo (.slice (some ⟨H, 0, none⟩) 0 0) [] := by
  subst hH
  exact empty_own w lo e F.sz h

/-- What the program's table says of a slice type of flat structs. -/
def ElemOk {α : Type} (F : Flat α) (t e : TypeId) : Prop :=
  ∃ (i : TypeInfo) (z : Value) (bytes : Nat), Try.prog.underlying t = some (.slice e) ∧ Try.prog.info? e = some i ∧ i.zero = some z ∧ i.size = F.sz ∧ i.bytes = bytes ∧ z.cells.size = F.sz ∧ 0 < F.sz ∧ bytes ≤ 1000
theorem news_at {w : World} {H : Nat} (hH : w.heap.size = H) (cs : Array Value) (e : TypeId) : ∀ j u, cs.toList[j]? = some u → (w.alloc (.cells cs e)).cell? ((⟨H, 0, none⟩ : Addr).add j) = some u := by
  intro j u hu
  subst hH
  have h := heap_alloc_new w (.cells cs e)
  rw [Addr.add_lit, Nat.zero_add]
  unfold World.cell?
  simp only [h]
  simpa using hu
/-- out = append(out, x), out a row of the call's own, x a struct that has just been laid in a block of its own. -/
theorem wpList_append_one {α : Type} {F : Flat α} {t e : TypeId} (hE : ElemOk F t e) {w1 : World} {ops : Array Oper} {rest : List Oper} {o : Oper} {a : Act} {Q : Exit → Act → World → Prop} (hgd : o.guard = none) (s x : Operand)
    (ho : o.op = .call { callee := .builtin .append, args := #[s, x], argTypes := #[t, t] }) {lo : Nat} {v : Value} {l : List α} (hs : a.eval s = v) (hrow : RowVal F e w1 lo v l) (hlen : l.length ≤ 16777216)
    (y : α) (cs : Array Value) (hcs : cs.toList = F.enc y) (hone : ∀ u ∈ cs.toList, u.oneCell' = true) (H c : Nat) (hH : w1.heap.size = H) (hx : a.eval x = .slice (some ⟨H, 0, none⟩) 1 c) (hlo : lo ≤ w1.heap.size)
    (h : ∀ v' w', RowVal F e w' lo v' (l ++ [y]) → (∀ B, B ≤ lo → B ≤ w1.heap.size → Below B w1 w') → w1.heap.size < w'.heap.size → wpList Try.prog ops Q rest (a.put o.dst v') w') :
    wpList Try.prog ops Q (o :: rest) a (w1.alloc (.cells cs e)) := by
  obtain ⟨i, z, bytes, ht, hi, hz, hsz, hby, hzs, hpos, hbb⟩ := hE
  have hb2 : (l.length + 1) * bytes ≤ 140737488355328 := Nat.le_trans (Nat.mul_le_mul (show l.length + 1 ≤ 16777217 by omega) hbb) (by omega)
  refine wpList_append_own _ hgd s x t ho lo e i z F.sz bytes ht hi hz hsz hby hzs hpos v l.length (l.flatMap F.enc) hs (hrow.alloc _) ⟨H, 0, none⟩ 1 c cs.toList hx (by rw [hcs, F.len, Nat.one_mul]) (news_at hH cs e) hone (by unfold maxLen; omega) hb2 (by simp; omega) (fun v' w' h2 h3 _ => h v' w' (RowVal.snoc hcs h2) (fun B hB hB2 => ?_) ?_)
  · refine ((Below.refl B w1).alloc hB2 _).trans (below_grown h3 (by simp; omega) (fun g hg => Nat.le_trans hB (own_block hrow g hg)))
  · have := h3.size; simp at this; omega
end Go.Proofs.Ytlkolehdikfddaa
/- The walk of the laws' own marks that are texts: some text comes back. -/
namespace Go.Proofs.Ytlkolehdikfddaa
open Go.RowKit
end Go.Proofs.Ytlkolehdikfddaa
/- Item: its cells, and the walks of the laws' own helpers on lists of it. -/
namespace Go.Proofs.Ytlkolehdikfddaa
open Go.RowKit

abbrev It := ByteArray × ByteArray × Int × Int × Int × Int × Int × Int
def itF : Flat It := ⟨fun f => [.string (f.1), .string (f.2.1), .int .i64 (f.2.2.1), .int .i64 (f.2.2.2.1), .int .i64 (f.2.2.2.2.1), .int .i64 (f.2.2.2.2.2.1), .int .i64 (f.2.2.2.2.2.2.1), .int .i64 (f.2.2.2.2.2.2.2)], 8, fun _ => rfl⟩
abbrev ItemsIn (w : World) (A : Option Addr) (n : Nat) (l : List It) : Prop := RowsIn itF w A n l
theorem item_at {w : World} {A : Option Addr} {n : Nat} {l : List It} (h : ItemsIn w A n l) {k : Nat} (hk : k < l.length) :
    ∃ b o, A = some ⟨b, o, none⟩ ∧ b < w.heap.size ∧ w.cell? ⟨b, o + k * 8, none⟩ = some (.string (l[k].1)) ∧ w.cell? ⟨b, o + k * 8 + 1, none⟩ = some (.string (l[k].2.1)) ∧ w.cell? ⟨b, o + k * 8 + 2, none⟩ = some (.int .i64 (l[k].2.2.1)) ∧ w.cell? ⟨b, o + k * 8 + 3, none⟩ = some (.int .i64 (l[k].2.2.2.1)) ∧ w.cell? ⟨b, o + k * 8 + 4, none⟩ = some (.int .i64 (l[k].2.2.2.2.1)) ∧ w.cell? ⟨b, o + k * 8 + 5, none⟩ = some (.int .i64 (l[k].2.2.2.2.2.1)) ∧ w.cell? ⟨b, o + k * 8 + 6, none⟩ = some (.int .i64 (l[k].2.2.2.2.2.2.1)) ∧ w.cell? ⟨b, o + k * 8 + 7, none⟩ = some (.int .i64 (l[k].2.2.2.2.2.2.2)) := by
  obtain ⟨b, o, e, hlt, hc⟩ := h.at_ hk
  exact ⟨b, o, e, hlt, hc 0 _ rfl, hc 1 _ rfl, hc 2 _ rfl, hc 3 _ rfl, hc 4 _ rfl, hc 5 _ rfl, hc 6 _ rfl, hc 7 _ rfl⟩
theorem itemInfo : (Try.prog.info? 47).map (fun i => (i.zero, i.size, i.bytes)) = some (some (.agg #[.string ByteArray.empty, .string ByteArray.empty, .int .i64 0, .int .i64 0, .int .i64 0, .int .i64 0, .int .i64 0, .int .i64 0]), 8, 80) := by kernel_rfl
theorem itemElem : ElemOk itF 24 47 := by
  obtain ⟨i, h1, h2, h3, h4⟩ := info_parts itemInfo
  exact ⟨i, _, 80, Try.underlying24, h1, h2, h3, h4, rfl, by decide, by omega⟩
def okIt (x : It) : Prop := x.1.size ≤ 9223372036854775807 ∧ x.2.1.size ≤ 9223372036854775807
end Go.Proofs.Ytlkolehdikfddaa
