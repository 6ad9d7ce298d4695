/- Part 7 of the texts of this claim: A plant: seven slices; the walks of the laws' own helpers on it; Levels of items (plain): edges are relaxed pass by pass; if n + 2 passes come to rest, n + 1 do; The walks of IsCode; Items, catalogs, conditions (plain): what both the reference and the program ask of them. -/
import Derived.Test.YtpbibkjcjgggdaaIt5
import Derived.Test.YtpbibkjcjgggdaaIt6
import Derived.Test.YtpbibkjcjgggdaaIt1
/- A plant: seven slices; the walks of the laws' own helpers on it. -/
namespace Go.Proofs.Ytpbibkjcjgggdaa
open Go.RowKit
/-- A slice's parts. -/
structure Sls where
  a : Option Addr
  n : Nat
  c : Nat
/-- A plant's slices: items, lines, the calendar's week and exceptions, choice, stock, receipts. -/
structure PtR where
  i : Sls
  l : Sls
  w : Sls
  e : Sls
  p : Sls
  s : Sls
  q : Sls
structure Pt where
  it : List It
  ls : List Bl
  wk : List Int
  ex : List Ex
  ch : List Pk
  st : List Nd
  rc : List Rc
abbrev PtR.v (r : PtR) : Value := .agg #[.slice r.i.a r.i.n r.i.c, .slice r.l.a r.l.n r.l.c, .slice r.w.a r.w.n r.w.c, .slice r.e.a r.e.n r.e.c, .slice r.p.a r.p.n r.p.c, .slice r.s.a r.s.n r.s.c, .slice r.q.a r.q.n r.q.c]
structure PlantIn (w : World) (r : PtR) (p : Pt) : Prop where
  it : ItemsIn w r.i.a r.i.n p.it
  ls : BillLinesIn w r.l.a r.l.n p.ls
  wk : IntsIn w r.w.a r.w.n p.wk
  ex : ExsIn w r.e.a r.e.n p.ex
  ch : PicksIn w r.p.a r.p.n p.ch
  st : NeedsIn w r.s.a r.s.n p.st
  rc : ReceiptsIn w r.q.a r.q.n p.rc
theorem PlantIn.keep {w w' : World} {r : PtR} {p : Pt} (h : PlantIn w r p) (hb : Below w.heap.size w w') : PlantIn w' r p := ⟨h.it.keep hb, h.ls.keep hb, h.wk.keep hb, h.ex.keep hb, h.ch.keep hb, h.st.keep hb, h.rc.keep hb⟩
structure okPt (p : Pt) : Prop where
  it : ∀ x ∈ p.it, okIt x
  ls : ∀ x ∈ p.ls, okBl x
  ch : ∀ x ∈ p.ch, okPk x
  st : ∀ x ∈ p.st, okNd x
  rc : ∀ x ∈ p.rc, okRc x
theorem BoxOf.seven {w : World} {N : Nat} {x0 x1 x2 x3 x4 x5 x6 : Value} (h : BoxOf w N [x0, x1, x2, x3, x4, x5, x6]) : w.cell? ⟨N, 0, none⟩ = some x0 ∧ w.cell? ⟨N, 1, none⟩ = some x1 ∧ w.cell? ⟨N, 2, none⟩ = some x2 ∧ w.cell? ⟨N, 3, none⟩ = some x3 ∧ w.cell? ⟨N, 4, none⟩ = some x4 ∧ w.cell? ⟨N, 5, none⟩ = some x5 ∧ w.cell? ⟨N, 6, none⟩ = some x6 ∧ N < w.heap.size := ⟨h.2 0 _ rfl, h.2 1 _ rfl, h.2 2 _ rfl, h.2 3 _ rfl, h.2 4 _ rfl, h.2 5 _ rfl, h.2 6 _ rfl, h.1⟩
theorem BoxOf.set {w : World} {N : Nat} {cs : List Value} (h : BoxOf w N cs) (hf : ∀ j, w.frozen? ⟨N, j, none⟩ = false) (j : Nat) (v : Value) (hj : j < cs.length) : BoxOf (w.setCell ⟨N, j, none⟩ v) N (cs.set j v) := by
  refine ⟨by simpa using h.1, fun i u hu => ?_⟩
  by_cases hij : j = i
  · subst hij
    rw [List.getElem?_set_self hj] at hu
    obtain rfl := Option.some.inj hu
    have := h.2 j _ (List.getElem?_eq_getElem hj)
    exact World.cell?_setCell_same _ _ _ this
  · rw [List.getElem?_set_ne hij] at hu
    rw [World.cell?_setCell_other _ _ _ _ (by intro e; injection e; contradiction)]
    exact h.2 i u hu
theorem BoxOf.off {w : World} {N : Nat} {cs : List Value} (h : BoxOf w N cs) {p : Addr} (hp : p.block ≠ N) (v : Value) : BoxOf (w.setCell p v) N cs :=
  ⟨by simpa using h.1, fun j u hu => by rw [World.cell?_setCell_other _ _ _ _ (by intro e; subst e; exact hp rfl)]; exact h.2 j u hu⟩
theorem frozen_set {w : World} {N M : Nat} (h : ∀ j, w.frozen? ⟨N, j, none⟩ = false) (i : Nat) (v : Value) : ∀ j, (w.setCell ⟨M, i, none⟩ v).frozen? ⟨N, j, none⟩ = false := fun j => by simp [go_sem, h]
structure PlantPre (w : World) (r : PtR) (p : Pt) : Prop where
  ni : r.i.n ≤ 9223372036854775807
  nl : r.l.n ≤ 9223372036854775807
  nw : r.w.n ≤ 9223372036854775807
  ne : r.e.n ≤ 9223372036854775807
  np : r.p.n ≤ 9223372036854775807
  ns : r.s.n ≤ 9223372036854775807
  nq : r.q.n ≤ 9223372036854775807
  it : r.i.n ≤ 1048576 → ItemsIn w r.i.a r.i.n p.it ∧ ∀ x ∈ p.it, okIt x
  ls : r.l.n ≤ 1048576 → BillLinePre w r.l.a r.l.n p.ls ∧ ∀ x ∈ p.ls, okBl x
  cal : r.w.n ≤ 1048576 → r.e.n ≤ 1048576 → IntsIn w r.w.a r.w.n p.wk ∧ ExsIn w r.e.a r.e.n p.ex
  ch : r.p.n ≤ 1048576 → PicksIn w r.p.a r.p.n p.ch ∧ ∀ x ∈ p.ch, okPk x
  st : r.s.n ≤ 1048576 → NeedsIn w r.s.a r.s.n p.st ∧ ∀ x ∈ p.st, okNd x
  rc : r.q.n ≤ 1048576 → ReceiptsIn w r.q.a r.q.n p.rc ∧ ∀ x ∈ p.rc, okRc x
end Go.Proofs.Ytpbibkjcjgggdaa
/- Levels of items (plain): edges are relaxed pass by pass; if n + 2 passes come to rest, n + 1 do. -/
namespace Go.Proofs.Ytpbibkjcjgggdaa
/-- One edge is relaxed. -/
def passTo (E : List (Nat × Nat)) (s : List Nat) : Nat → List Nat × Bool
  | 0 => (s, false)
  | k + 1 => if (passTo E s k).1.getD (E.getD k (0, 0)).2 0 ≤ (passTo E s k).1.getD (E.getD k (0, 0)).1 0 then ((passTo E s k).1.set (E.getD k (0, 0)).2 ((passTo E s k).1.getD (E.getD k (0, 0)).1 0 + 1), true) else passTo E s k
/-- The state behind r passes, and whether pass r turns something. -/
def runTo (E : List (Nat × Nat)) (n : Nat) : Nat → List Nat
  | 0 => List.replicate n 0
  | r + 1 => (passTo E (runTo E n r) E.length).1
def turned (E : List (Nat × Nat)) (n r : Nat) : Bool := (passTo E (runTo E n r) E.length).2
theorem natD_set (m : List Nat) (d i : Nat) (x : Nat) (hd : d < m.length) : (m.set d x).getD i 0 = if d = i then x else m.getD i 0 := by
  rw [List.getD_eq_getElem?_getD, List.getElem?_set, List.getD_eq_getElem?_getD]
  by_cases h : d = i
  · subst h; rw [if_pos rfl, if_pos hd, if_pos rfl]; rfl
  · rw [if_neg h, if_neg h]
section
variable {E : List (Nat × Nat)} {n : Nat}
theorem passTo_len (s : List Nat) (k : Nat) : (passTo E s k).1.length = s.length := by
  induction k with
  | zero => rfl
  | succ k ih =>
    simp only [passTo]
    split
    · rw [List.length_set]; exact ih
    · exact ih
theorem runTo_len (r : Nat) : (runTo E n r).length = n := by
  induction r with
  | zero => simp [runTo]
  | succ r ih => simp only [runTo]; rw [passTo_len, ih]
/-- A level that is not 0 has an edge that holds it up. -/
def Held (E : List (Nat × Nat)) (s : List Nat) : Prop := ∀ v, 0 < s.getD v 0 → ∃ k, k < E.length ∧ (E.getD k (0, 0)).2 = v ∧ s.getD v 0 ≤ s.getD (E.getD k (0, 0)).1 0 + 1
theorem Held.pass (hE : ∀ k, k < E.length → (E.getD k (0, 0)).1 < n ∧ (E.getD k (0, 0)).2 < n) {s : List Nat} (hs : s.length = n) (h : Held E s) (k : Nat) (hk : k ≤ E.length) : Held E (passTo E s k).1 := by
  induction k with
  | zero => exact h
  | succ k ih =>
    have ih := ih (by omega)
    have hl := passTo_len (E := E) s k
    obtain ⟨e1, e2⟩ := hE k (by omega)
    simp only [passTo]
    split
    · next hle =>
      intro v hv
      rw [natD_set _ _ _ _ (by omega)] at hv ⊢
      by_cases hd : (E.getD k (0, 0)).2 = v
      · refine ⟨k, by omega, hd, ?_⟩
        rw [if_pos hd, natD_set _ _ _ _ (by omega)]
        split <;> omega
      · rw [if_neg hd] at hv ⊢
        obtain ⟨j, h1, h2, h3⟩ := ih v hv
        refine ⟨j, h1, h2, ?_⟩
        rw [natD_set _ _ _ _ (by omega)]
        split
        · next e => rw [← e] at h3; omega
        · exact h3
    · exact ih
theorem Held.run (hE : ∀ k, k < E.length → (E.getD k (0, 0)).1 < n ∧ (E.getD k (0, 0)).2 < n) (r : Nat) : Held E (runTo E n r) := by
  induction r with
  | zero =>
    intro v hv
    simp only [runTo] at hv
    rw [List.getD_eq_getElem?_getD, List.getElem?_replicate] at hv
    split at hv <;> simp at hv
  | succ r ih => exact ih.pass hE (runTo_len r) _ (Nat.le_refl _)
/-- No edge is left to relax. -/
def Rest (E : List (Nat × Nat)) (s : List Nat) : Prop := ∀ k, k < E.length → s.getD (E.getD k (0, 0)).1 0 < s.getD (E.getD k (0, 0)).2 0
theorem pass_rest (s : List Nat) (k : Nat) (hk : k ≤ E.length) (h : (passTo E s k).2 = false) : (passTo E s k).1 = s ∧ ∀ j, j < k → s.getD (E.getD j (0, 0)).1 0 < s.getD (E.getD j (0, 0)).2 0 := by
  induction k with
  | zero => exact ⟨rfl, fun j hj => by omega⟩
  | succ k ih =>
    simp only [passTo] at h ⊢
    split at h
    · cases h
    · next hle =>
      obtain ⟨h1, h2⟩ := ih (by omega) h
      rw [if_neg hle]
      refine ⟨h1, fun j hj => ?_⟩
      by_cases e : j = k
      · subst e; rw [h1] at hle; omega
      · exact h2 j (by omega)
/-- In a state at rest that is held up, the levels have no gap: there are fewer than n of them. -/
theorem rest_le (hE : ∀ k, k < E.length → (E.getD k (0, 0)).1 < n ∧ (E.getD k (0, 0)).2 < n) {s : List Nat} (hh : Held E s) (hr : Rest E s) (v : Nat) (hv : v < n) : s.getD v 0 < n := by
  have key : ∀ m v, v < n → s.getD v 0 = m → ∃ f : Nat → Nat, ∀ i, i ≤ m → f i < n ∧ s.getD (f i) 0 = i := by
    intro m
    induction m with
    | zero =>
      intro v hv h
      refine ⟨fun _ => v, fun i hi => ⟨hv, ?_⟩⟩
      obtain rfl : i = 0 := by omega
      exact h
    | succ m ih =>
      intro v hv h
      obtain ⟨k, h1, h2, h3⟩ := hh v (by omega)
      have h4 := hr k h1
      rw [h2] at h4
      obtain ⟨f, hf⟩ := ih (E.getD k (0, 0)).1 (hE k h1).1 (by omega)
      refine ⟨fun i => if i = m + 1 then v else f i, fun i hi => ?_⟩
      by_cases e : i = m + 1
      · subst e; simp only [if_true]; exact ⟨hv, h⟩
      · simp only [if_neg e]; exact hf i (by omega)
  obtain ⟨f, hf⟩ := key _ v hv rfl
  rcases Nat.lt_or_ge (s.getD v 0) n with h1 | h1
  · exact h1
  · exfalso
    -- n + 1 indices below n with different levels
    have hnd : ((List.range (n + 1)).map f).Nodup := by
      rw [List.Nodup, List.pairwise_map]
      refine List.Pairwise.imp_of_mem (fun {i j} hi hj hij e => ?_) List.pairwise_lt_range
      have a := (hf i (by have := List.mem_range.1 hi; omega)).2
      have b := (hf j (by have := List.mem_range.1 hj; omega)).2
      rw [e] at a
      omega
    have hlen : ∀ (N : Nat) (l : List Nat), l.Nodup → (∀ x ∈ l, x < N) → l.length ≤ N := by
      intro N
      induction N with
      | zero =>
        intro l _ h
        cases l with
        | nil => exact Nat.le_refl _
        | cons a t => exact absurd (h a (by simp)) (by omega)
      | succ N ih =>
        intro l hn h
        by_cases hm : N ∈ l
        · have h1 := ih (l.erase N) (hn.erase N) (fun x hx => by
            have h2 := (hn.mem_erase_iff).1 hx
            have := h x h2.2
            have := h2.1
            omega)
          rw [List.length_erase_of_mem hm] at h1
          omega
        · have h1 := ih l hn (fun x hx => by
            have := h x hx
            have h2 : x ≠ N := fun e => hm (e ▸ hx)
            omega)
          omega
    have := hlen n _ hnd (fun x hx => by
      obtain ⟨i, hi, rfl⟩ := List.mem_map.1 hx
      exact (hf i (by have := List.mem_range.1 hi; omega)).1)
    simp at this
    omega
/-- An edge of pass r that is not at rest starts at a level of at least r. -/
theorem pass_late (hE : ∀ k, k < E.length → (E.getD k (0, 0)).1 < n ∧ (E.getD k (0, 0)).2 < n) {s : List Nat} (hs : s.length = n) (r : Nat) (h : ∀ j, j < E.length → s.getD (E.getD j (0, 0)).1 0 < s.getD (E.getD j (0, 0)).2 0 ∨ r ≤ s.getD (E.getD j (0, 0)).1 0) (k : Nat) (hk : k ≤ E.length) :
    (∀ j, j < E.length → (passTo E s k).1.getD (E.getD j (0, 0)).1 0 < (passTo E s k).1.getD (E.getD j (0, 0)).2 0 ∨ (if j < k then r + 1 else r) ≤ (passTo E s k).1.getD (E.getD j (0, 0)).1 0) ∧ ((passTo E s k).2 = true → ∃ v, v < n ∧ r + 1 ≤ (passTo E s k).1.getD v 0) := by
  induction k with
  | zero => exact ⟨fun j hj => by rw [if_neg (by omega)]; exact h j hj, fun h => by cases h⟩
  | succ k ih =>
    obtain ⟨i1, i2⟩ := ih (by omega)
    have hl := passTo_len (E := E) s k
    obtain ⟨e1, e2⟩ := hE k (by omega)
    have ik := i1 k (by omega)
    rw [if_neg (by omega)] at ik
    simp only [passTo]
    split
    · next hle =>
      have hr : r ≤ (passTo E s k).1.getD (E.getD k (0, 0)).1 0 := by omega
      refine ⟨fun j hj => ?_, fun _ => ⟨(E.getD k (0, 0)).2, e2, by rw [natD_set _ _ _ _ (by omega), if_pos rfl]; omega⟩⟩
      rw [natD_set _ _ _ _ (by omega), natD_set _ _ _ _ (by omega)]
      have ij := i1 j hj
      by_cases c1 : (E.getD k (0, 0)).2 = (E.getD j (0, 0)).1
      · right
        rw [if_pos c1]
        split <;> omega
      · rw [if_neg c1]
        by_cases c2 : (E.getD k (0, 0)).2 = (E.getD j (0, 0)).2
        · rw [if_pos c2]
          by_cases ej : j = k
          · subst ej; left; omega
          · rw [← c2] at ij
            rcases ij with ij | ij
            · left; omega
            · right
              split at ij
              · rw [if_pos (by omega)]; exact ij
              · rw [if_neg (by omega)]; exact ij
        · rw [if_neg c2]
          by_cases ej : j = k
          · subst ej; exact absurd rfl c2
          · rcases ij with ij | ij
            · exact .inl ij
            · right
              split at ij
              · rw [if_pos (by omega)]; exact ij
              · rw [if_neg (by omega)]; exact ij
    · next hle =>
      refine ⟨fun j hj => ?_, i2⟩
      by_cases ej : j = k
      · subst ej; left; omega
      · have ij := i1 j hj
        rcases ij with ij | ij
        · exact .inl ij
        · right
          split at ij
          · rw [if_pos (by omega)]; exact ij
          · rw [if_neg (by omega)]; exact ij
theorem run_late (hE : ∀ k, k < E.length → (E.getD k (0, 0)).1 < n ∧ (E.getD k (0, 0)).2 < n) (r : Nat) : ∀ j, j < E.length → (runTo E n r).getD (E.getD j (0, 0)).1 0 < (runTo E n r).getD (E.getD j (0, 0)).2 0 ∨ r ≤ (runTo E n r).getD (E.getD j (0, 0)).1 0 := by
  induction r with
  | zero => exact fun j hj => .inr (Nat.zero_le _)
  | succ r ih =>
    intro j hj
    have := (pass_late hE (runTo_len r) r ih E.length (Nat.le_refl _)).1 j hj
    rw [if_pos hj] at this
    exact this
/-- If pass n + 1 turns nothing, pass n turned nothing. -/
theorem turned_one (hE : ∀ k, k < E.length → (E.getD k (0, 0)).1 < n ∧ (E.getD k (0, 0)).2 < n) (h : turned E n (n + 1) = false) : turned E n n = false := by
  cases ht : turned E n n
  · rfl
  · exfalso
    obtain ⟨v, hv, h1⟩ := (pass_late hE (runTo_len n) n (run_late hE n) E.length (Nat.le_refl _)).2 ht
    have h2 := pass_rest (E := E) (runTo E n (n + 1)) E.length (Nat.le_refl _) h
    have h3 := rest_le hE (Held.run hE (n + 1)) (fun k hk => h2.2 k hk) v hv
    have h4 : (runTo E n (n + 1)).getD v 0 = (passTo E (runTo E n n) E.length).1.getD v 0 := rfl
    omega
end
end Go.Proofs.Ytpbibkjcjgggdaa
/- The walks of IsCode. -/
namespace Go.Proofs.Ytpbibkjcjgggdaa
open Go.RowKit
def codeCh (k : Nat) (c : Int) : Bool := decide ((65 ≤ c ∧ c ≤ 90) ∨ (k ≠ 0 ∧ ((48 ≤ c ∧ c ≤ 57) ∨ c = 45)))
def chAt (s : ByteArray) (k : Nat) : Int := ((s.data.toList.getD k 0).toNat : Int)
theorem chAt_at (s : ByteArray) (k : Nat) (h : k < s.size) : chAt s k = (s[k].toNat : Int) := by
  unfold chAt
  have h2 : k < s.data.toList.length := by simpa using h
  rw [List.getD_eq_getElem?_getD, List.getElem?_eq_getElem h2]
  rfl
def isCode (s : ByteArray) : Bool := (List.range s.size).all (fun k => codeCh k (chAt s k)) && decide ((1 : Int) ≤ (s.size : Int) ∧ (s.size : Int) ≤ 8)
theorem isCode_no {s : ByteArray} {k : Nat} (hk : k < s.size) (h : codeCh k (chAt s k) = false) : isCode s = false := by
  unfold isCode
  have : (List.range s.size).all (fun k => codeCh k (chAt s k)) = false := by
    rw [List.all_eq_false]; exact ⟨k, by simpa using hk, by simp [h]⟩
  rw [this, Bool.false_and]
theorem isCode_end {s : ByteArray} (h : ∀ j < s.size, codeCh j (chAt s j) = true) : isCode s = decide ((1 : Int) ≤ (s.size : Int) ∧ (s.size : Int) ≤ 8) := by
  unfold isCode
  have : (List.range s.size).all (fun k => codeCh k (chAt s k)) = true := by
    rw [List.all_eq_true]; intro k hk; exact h k (by simpa using hk)
  rw [this, Bool.true_and]
set_option maxRecDepth 100000 in
set_option maxHeartbeats 4000000 in
theorem specIsCode_any (s : ByteArray) (w : World) (hs : s.size ≤ 9223372036854775807) : Calls Try.prog 62 #[.string s] w fun e w' => e = .returned (.bool (isCode s)) ∧ w = w' := by
  go_enter Try.func62, Try.ntmps62
  go_wp2
  go_loop [3] (fun i => ∃ k : Nat, k ≤ s.size ∧ i = .int .i64 k ∧ Hid (∀ j < k, codeCh j (chAt s j) = true)) (fun i => s.size - (intOf i).toNat)
  case atStart => exact ⟨0, by omega, rfl, fun j h => absurd h (by omega)⟩
  case round =>
    obtain ⟨k, hk, rfl, HI⟩ := hrel
    by_cases hlt : k < s.size
    · have hch := chAt_at s k hlt
      have hb : s[k].toNat < 256 := UInt8.toNat_lt _
      have HX : Hid (codeCh k (s[k].toNat : Int) = true → ∀ j < k + 1, codeCh j (chAt s j) = true) := fun h j hj => by
        rcases Nat.lt_or_ge j k with h1 | h1
        · exact HI.out j h1
        · obtain rfl : j = k := by omega
          rw [hch]; exact h
      have HN : Hid (codeCh k (s[k].toNat : Int) = false → isCode s = false) := fun h => isCode_no hlt (by rw [hch]; exact h)
      clear hch
      by_cases h1 : (65 : Int) ≤ (s[k].toNat : Int) ∧ (s[k].toNat : Int) ≤ 90
      · obtain ⟨h1, h2⟩ := h1
        have HC : Hid (codeCh k (s[k].toNat : Int) = true) := decide_eq_true (.inl ⟨h1, h2⟩)
        go_wp2
        go_round
        case rel => exact ⟨k + 1, by omega, by go_num, HX.out HC.out⟩
        case measure => simp [intOf]; omega
      by_cases h0 : k = 0
      · have HC : Hid (codeCh k (s[k].toNat : Int) = false) := decide_eq_false (fun h => h.elim h1 (fun h => h.1 h0))
        subst h0
        by_cases h2 : (65 : Int) ≤ (s[0].toNat : Int)
        · have h7 : decide ((s[0].toNat : Int) ≤ 90) = false := decide_eq_false (fun h => h1 ⟨h2, h⟩)
          clear h1
          go_wp2
          go_ret
          exact ⟨ret_bool (HN.out HC.out).symm, rfl⟩
        · clear h1
          go_wp2
          go_ret
          exact ⟨ret_bool (HN.out HC.out).symm, rfl⟩
      · have hk0 : ((k : Int) == 0) = false := by rw [beq_eq_false_iff_ne]; omega
        have K0 := Lib.hid h0
        clear h0
        by_cases h3 : (s[k].toNat : Int) < 48
        · by_cases h5 : (s[k].toNat : Int) = 45
          · have HC : Hid (codeCh k (s[k].toNat : Int) = true) := decide_eq_true (.inr ⟨K0.out, .inr h5⟩)
            have h6 : ((s[k].toNat : Int) != 45) = false := by rw [bne_eq_false_iff_eq]; exact h5
            clear h5 h1
            go_wp2
            go_round
            case rel => exact ⟨k + 1, by omega, by go_num, HX.out HC.out⟩
            case measure => simp [intOf]; omega
          · have HC : Hid (codeCh k (s[k].toNat : Int) = false) := decide_eq_false (fun h => h.elim h1 (fun h => h.2.elim (fun h => by omega) h5))
            have h6 : ((s[k].toNat : Int) != 45) = true := by rw [bne_iff_ne]; exact h5
            clear h5 h1
            go_wp2
            go_ret
            exact ⟨ret_bool (HN.out HC.out).symm, rfl⟩
        · by_cases h4 : (s[k].toNat : Int) ≤ 57
          · have HC : Hid (codeCh k (s[k].toNat : Int) = true) := decide_eq_true (.inr ⟨K0.out, .inl ⟨by omega, h4⟩⟩)
            clear h1
            go_wp2
            go_round
            case rel => exact ⟨k + 1, by omega, by go_num, HX.out HC.out⟩
            case measure => simp [intOf]; omega
          · have HC : Hid (codeCh k (s[k].toNat : Int) = false) := decide_eq_false (fun h => h.elim h1 (fun h => h.2.elim (fun h => h4 h.2) (fun h => by omega)))
            have h6 : ((s[k].toNat : Int) != 45) = true := by rw [bne_iff_ne]; omega
            by_cases h2 : (65 : Int) ≤ (s[k].toNat : Int)
            · have h7 : decide ((s[k].toNat : Int) ≤ 90) = false := decide_eq_false (fun h => h1 ⟨h2, h⟩)
              clear h1
              go_wp2
              go_ret
              exact ⟨ret_bool (HN.out HC.out).symm, rfl⟩
            · clear h1
              go_wp2
              go_ret
              exact ⟨ret_bool (HN.out HC.out).symm, rfl⟩
    · obtain rfl : k = s.size := by omega
      have HE := Lib.hid (isCode_end HI.out)
      by_cases hl : (1 : Int) ≤ (s.size : Int)
      · by_cases hl2 : (s.size : Int) ≤ 8
        all_goals
          go_wp2
          go_ret
          exact ⟨ret_bool (by rw [HE.out]; simp [hl, hl2] <;> omega), rfl⟩
      · go_wp2
        go_ret
        exact ⟨ret_bool (by rw [HE.out]; simp; omega), rfl⟩
set_option maxRecDepth 100000 in
set_option maxHeartbeats 4000000 in
theorem implIsCode_any (s : ByteArray) (w : World) (hs : s.size ≤ 9223372036854775807) : Calls Try.prog 72 #[.string s] w fun e w' => e = .returned (.bool (isCode s)) ∧ w = w' := by
  go_enter Try.func72, Try.ntmps72
  go_wp2
  go_loop [3] (fun i => ∃ k : Nat, k ≤ s.size ∧ i = .int .i64 k ∧ Hid (∀ j < k, codeCh j (chAt s j) = true)) (fun i => s.size - (intOf i).toNat)
  case atStart => exact ⟨0, by omega, rfl, fun j h => absurd h (by omega)⟩
  case round =>
    obtain ⟨k, hk, rfl, HI⟩ := hrel
    by_cases hlt : k < s.size
    · have hch := chAt_at s k hlt
      have hb : s[k].toNat < 256 := UInt8.toNat_lt _
      have HX : Hid (codeCh k (s[k].toNat : Int) = true → ∀ j < k + 1, codeCh j (chAt s j) = true) := fun h j hj => by
        rcases Nat.lt_or_ge j k with h1 | h1
        · exact HI.out j h1
        · obtain rfl : j = k := by omega
          rw [hch]; exact h
      have HN : Hid (codeCh k (s[k].toNat : Int) = false → isCode s = false) := fun h => isCode_no hlt (by rw [hch]; exact h)
      clear hch
      by_cases h1 : (65 : Int) ≤ (s[k].toNat : Int) ∧ (s[k].toNat : Int) ≤ 90
      · obtain ⟨h1, h2⟩ := h1
        have HC : Hid (codeCh k (s[k].toNat : Int) = true) := decide_eq_true (.inl ⟨h1, h2⟩)
        go_wp2
        go_round
        case rel => exact ⟨k + 1, by omega, by go_num, HX.out HC.out⟩
        case measure => simp [intOf]; omega
      by_cases h0 : k = 0
      · have HC : Hid (codeCh k (s[k].toNat : Int) = false) := decide_eq_false (fun h => h.elim h1 (fun h => h.1 h0))
        subst h0
        by_cases h2 : (65 : Int) ≤ (s[0].toNat : Int)
        · have h7 : decide ((s[0].toNat : Int) ≤ 90) = false := decide_eq_false (fun h => h1 ⟨h2, h⟩)
          clear h1
          go_wp2
          go_ret
          exact ⟨ret_bool (HN.out HC.out).symm, rfl⟩
        · clear h1
          go_wp2
          go_ret
          exact ⟨ret_bool (HN.out HC.out).symm, rfl⟩
      · have hk0 : ((k : Int) == 0) = false := by rw [beq_eq_false_iff_ne]; omega
        have K0 := Lib.hid h0
        clear h0
        by_cases h3 : (s[k].toNat : Int) < 48
        · by_cases h5 : (s[k].toNat : Int) = 45
          · have HC : Hid (codeCh k (s[k].toNat : Int) = true) := decide_eq_true (.inr ⟨K0.out, .inr h5⟩)
            have h6 : ((s[k].toNat : Int) != 45) = false := by rw [bne_eq_false_iff_eq]; exact h5
            clear h5 h1
            go_wp2
            go_round
            case rel => exact ⟨k + 1, by omega, by go_num, HX.out HC.out⟩
            case measure => simp [intOf]; omega
          · have HC : Hid (codeCh k (s[k].toNat : Int) = false) := decide_eq_false (fun h => h.elim h1 (fun h => h.2.elim (fun h => by omega) h5))
            have h6 : ((s[k].toNat : Int) != 45) = true := by rw [bne_iff_ne]; exact h5
            clear h5 h1
            go_wp2
            go_ret
            exact ⟨ret_bool (HN.out HC.out).symm, rfl⟩
        · by_cases h4 : (s[k].toNat : Int) ≤ 57
          · have HC : Hid (codeCh k (s[k].toNat : Int) = true) := decide_eq_true (.inr ⟨K0.out, .inl ⟨by omega, h4⟩⟩)
            clear h1
            go_wp2
            go_round
            case rel => exact ⟨k + 1, by omega, by go_num, HX.out HC.out⟩
            case measure => simp [intOf]; omega
          · have HC : Hid (codeCh k (s[k].toNat : Int) = false) := decide_eq_false (fun h => h.elim h1 (fun h => h.2.elim (fun h => h4 h.2) (fun h => by omega)))
            have h6 : ((s[k].toNat : Int) != 45) = true := by rw [bne_iff_ne]; omega
            by_cases h2 : (65 : Int) ≤ (s[k].toNat : Int)
            · have h7 : decide ((s[k].toNat : Int) ≤ 90) = false := decide_eq_false (fun h => h1 ⟨h2, h⟩)
              clear h1
              go_wp2
              go_ret
              exact ⟨ret_bool (HN.out HC.out).symm, rfl⟩
            · clear h1
              go_wp2
              go_ret
              exact ⟨ret_bool (HN.out HC.out).symm, rfl⟩
    · obtain rfl : k = s.size := by omega
      have HE := Lib.hid (isCode_end HI.out)
      by_cases hl : (1 : Int) ≤ (s.size : Int)
      · by_cases hl2 : (s.size : Int) ≤ 8
        all_goals
          go_wp2
          go_ret
          exact ⟨ret_bool (by rw [HE.out]; simp [hl, hl2] <;> omega), rfl⟩
      · go_wp2
        go_ret
        exact ⟨ret_bool (by rw [HE.out]; simp; omega), rfl⟩
end Go.Proofs.Ytpbibkjcjgggdaa
/- Items, catalogs, conditions (plain): what both the reference and the program ask of them. -/
namespace Go.Proofs.Ytpbibkjcjgggdaa
open Go.RowKit
/-! It: code, unit, kind, lead, rule, size, safety, scrap. -/
def itNone : It := (ByteArray.empty, ByteArray.empty, 0, 0, 0, 0, 0, 0)
def isLotR (rule size : Int) : Bool := decide ((rule = 0 ∧ size = 0) ∨ ((rule = 1 ∨ rule = 2) ∧ 1 ≤ size ∧ size ≤ 1000))
def isItem (x : It) : Bool :=
  isCode x.1 && (isCode x.2.1 && (inB x.2.2.1 0 2 && (inB x.2.2.2.1 0 30 && (inB x.2.2.2.2.2.2.1 0 100000 && (inB x.2.2.2.2.2.2.2 0 50 && (isLotR x.2.2.2.2.1 x.2.2.2.2.2.1 && decide (x.2.2.1 = 2 → x.2.2.2.1 = 0 ∧ x.2.2.2.2.1 = 0 ∧ x.2.2.2.2.2.2.1 = 0 ∧ x.2.2.2.2.2.2.2 = 0)))))))
def catAt (l : List It) (lt : ByteArray → ByteArray → Bool) (k : Nat) : Bool := isItem (l.getD k itNone) && (decide (k = 0) || lt (l.getD (k - 1) itNone).1 (l.getD k itNone).1)
/-! Cn: kind, option, value. -/
def cnNone : Cn := (0, ByteArray.empty, ByteArray.empty)
/-- The texts of a node. -/
def cnText (x : Cn) : Bool := if x.1 = 1 then isCode x.2.1 && isCode x.2.2 else (x.2.1.toList == []) && (x.2.2.toList == [])
/-- How many conditions lie there behind a node; none if too few lay there ahead of it. -/
def cnNext (n : Nat) (x : Cn) : Option Nat :=
  if x.1 = 0 ∨ x.1 = 1 then some (n + 1) else if x.1 = 2 then (if n < 1 then none else some n) else if x.1 = 3 ∨ x.1 = 4 then (if n < 2 then none else some (n - 1)) else none
def condTo (l : List Cn) : Nat → Option Nat
  | 0 => some 0
  | k + 1 => match condTo l k with
    | none => none
    | some n => match cnNext n (l.getD k cnNone) with
      | none => none
      | some m => if cnText (l.getD k cnNone) then some m else none
def isCond (l : List Cn) : Bool := decide (l.length ≤ 30) && decide (condTo l l.length = some 1)
theorem condTo_le {l : List Cn} {k n : Nat} (h : condTo l k = some n) : n ≤ k := by
  induction k generalizing n with
  | zero => simp only [condTo, Option.some.injEq] at h; omega
  | succ k ih =>
    simp only [condTo] at h
    split at h
    · cases h
    · next n0 h0 =>
      split at h
      · cases h
      · next m hm =>
        split at h
        · have h1 := ih h0
          have h2 := Option.some.inj h
          subst h2
          simp only [cnNext] at hm
          split at hm
          · have := Option.some.inj hm; omega
          · split at hm
            · split at hm
              · cases hm
              · have := Option.some.inj hm; omega
            · split at hm
              · split at hm
                · cases hm
                · have := Option.some.inj hm; omega
              · cases hm
        · cases h
theorem condTo_none {l : List Cn} {k : Nat} (h : condTo l k = none) : ∀ d, condTo l (k + d) = none := by
  intro d
  induction d with
  | zero => exact h
  | succ d ih =>
    rw [show k + (d + 1) = (k + d) + 1 by omega]
    simp only [condTo]
    rw [ih]
theorem isCond_at {l : List Cn} {k : Nat} (hk : k ≤ l.length) (h : condTo l k = none) : isCond l = false := by
  have := condTo_none h (l.length - k)
  rw [show k + (l.length - k) = l.length by omega] at this
  unfold isCond
  rw [this]; simp
end Go.Proofs.Ytpbibkjcjgggdaa
