/- Plain laws of lots that begin at chosen periods: what they are, what they cost, which are best. No program in sight. -/
import Derived.Test.YtmkfinahbelpdaaLotPlain
namespace Go.Proofs.Ytmkfinahbelpdaa

/-- The first k needs together. -/
def sumN (needs : List Int) : Nat → Int
  | 0 => 0
  | k + 1 => sumN needs k + needs.getD k 0
/-- The needs from period a up to, not with, period b. -/
def seg (needs : List Int) (a b : Nat) : Int := sumN needs b - sumN needs a
/-- What the stock of d periods from a on costs. -/
def holdN (needs : List Int) (h : Int) (a : Nat) : Nat → Int
  | 0 => 0
  | d + 1 => holdN needs h a d + h * needs.getD (a + d) 0 * d
/-- What one lot for the periods from a up to b costs. -/
def lotC (needs : List Int) (s h : Int) (a b : Nat) : Int := holdN needs h a (b - a) + if 0 < seg needs a b then s else 0
/-- One candidate more: the last place of the next lot. -/
def pickStep (st : Int × Nat) (c : Int) (j : Nat) : Int × Nat := if st.1 < 0 ∨ c < st.1 then (c, j) else st
def pickTo (needs : List Int) (s h : Int) (i : Nat) (t : List (Int × Nat)) : Nat → Int × Nat
  | 0 => (-1, 0)
  | m + 1 => pickStep (pickTo needs s h i t m) (lotC needs s h i (i + 1 + m) + (t.getD m (0, 0)).1) (i + 1 + m)
/-- The table of the last d periods and the end: what is least from there on, and where the next lot begins. -/
def tbl (needs : List Int) (s h : Int) (n : Nat) : Nat → List (Int × Nat)
  | 0 => [(0, 0)]
  | d + 1 => pickTo needs s h (n - (d + 1)) (tbl needs s h n d) (d + 1) :: tbl needs s h n d
theorem tbl_len (needs : List Int) (s h : Int) (n d : Nat) : (tbl needs s h n d).length = d + 1 := by
  induction d with
  | zero => rfl
  | succ d ih => simp [tbl, ih]
theorem tbl_drop (needs : List Int) (s h : Int) (n d e : Nat) (he : e ≤ d) : (tbl needs s h n d).getD (d - e) (0, 0) = (tbl needs s h n e).getD 0 (0, 0) := by
  induction d with
  | zero => obtain rfl : e = 0 := by omega
            rfl
  | succ d ih =>
    by_cases h1 : e = d + 1
    · subst h1; simp
    · have := ih (by omega)
      rw [show d + 1 - e = (d - e) + 1 by omega, tbl, List.getD_cons_succ, this]
/-- What is least from period i on, of n. -/
def bestN (needs : List Int) (s h : Int) (n i : Nat) : Int := ((tbl needs s h n (n - i)).getD 0 (0, 0)).1
def nextN (needs : List Int) (s h : Int) (n i : Nat) : Nat := ((tbl needs s h n (n - i)).getD 0 (0, 0)).2
theorem bestN_end (needs : List Int) (s h : Int) (n : Nat) : bestN needs s h n n = 0 := by simp [bestN, tbl]
theorem pickTo_facts (needs : List Int) (s h : Int) (i : Nat) (t : List (Int × Nat)) (m : Nat) (hc : ∀ j < m, 0 ≤ lotC needs s h i (i + 1 + j) + (t.getD j (0, 0)).1) :
    (∀ j < m, (pickTo needs s h i t m).1 ≤ lotC needs s h i (i + 1 + j) + (t.getD j (0, 0)).1) ∧ (0 < m → 0 ≤ (pickTo needs s h i t m).1 ∧ ∃ j < m, (pickTo needs s h i t m).2 = i + 1 + j ∧ (pickTo needs s h i t m).1 = lotC needs s h i (i + 1 + j) + (t.getD j (0, 0)).1) := by
  induction m with
  | zero => exact ⟨fun j h => absurd h (by omega), fun h => absurd h (by omega)⟩
  | succ m ih =>
    obtain ⟨h1, h2⟩ := ih (fun j hj => hc j (by omega))
    have hm := hc m (by omega)
    simp only [pickTo, pickStep]
    split
    · rename_i hcond
      refine ⟨fun j hj => ?_, fun _ => ⟨hm, m, by omega, rfl, rfl⟩⟩
      rcases Nat.lt_or_ge j m with h3 | h3
      · have h4 := h1 j h3
        have h5 := (h2 (by omega)).1
        simp only; omega
      · have : j = m := by omega
        subst this; exact Int.le_refl _
    · rename_i hcond
      have hpos : 0 < m := by
        rcases Nat.eq_zero_or_pos m with h0 | h0
        · subst h0
          exact absurd (.inl (by simp [pickTo])) hcond
        · exact h0
      obtain ⟨h5, j, hj, h6, h7⟩ := h2 hpos
      refine ⟨fun j hj => ?_, fun _ => ⟨h5, j, by omega, h6, h7⟩⟩
      rcases Nat.lt_or_ge j m with h3 | h3
      · exact h1 j h3
      · have : j = m := by omega
        subst this
        have : ¬ lotC needs s h i (i + 1 + j) + (t.getD j (0, 0)).1 < (pickTo needs s h i t j).1 := fun h => hcond (.inr h)
        omega
theorem sumN_mono (needs : List Int) (hn : ∀ x ∈ needs, 0 ≤ x) (a b : Nat) (hab : a ≤ b) : sumN needs a ≤ sumN needs b := by
  induction b with
  | zero => obtain rfl : a = 0 := by omega
            exact Int.le_refl _
  | succ b ih =>
    rcases Nat.lt_or_ge b a with h | h
    · obtain rfl : a = b + 1 := by omega
      exact Int.le_refl _
    · have h1 := ih h
      have h2 : 0 ≤ needs.getD b 0 := by
        rcases Nat.lt_or_ge b needs.length with h3 | h3
        · rw [List.getD_eq_getElem?_getD, List.getElem?_eq_getElem h3]; exact hn _ (List.getElem_mem h3)
        · rw [List.getD_eq_getElem?_getD, List.getElem?_eq_none h3]; exact Int.le_refl _
      simp only [sumN]; omega
theorem holdN_nonneg (needs : List Int) (h : Int) (hh : 0 ≤ h) (hn : ∀ x ∈ needs, 0 ≤ x) (a d : Nat) : 0 ≤ holdN needs h a d := by
  induction d with
  | zero => exact Int.le_refl _
  | succ d ih =>
    have h2 : 0 ≤ needs.getD (a + d) 0 := by
      rcases Nat.lt_or_ge (a + d) needs.length with h3 | h3
      · rw [List.getD_eq_getElem?_getD, List.getElem?_eq_getElem h3]; exact hn _ (List.getElem_mem h3)
      · rw [List.getD_eq_getElem?_getD, List.getElem?_eq_none h3]; exact Int.le_refl _
    have h4 : 0 ≤ h * needs.getD (a + d) 0 * (d : Int) := Int.mul_nonneg (Int.mul_nonneg hh h2) (by omega)
    simp only [holdN]; omega
theorem lotC_nonneg (needs : List Int) (s h : Int) (hs : 0 ≤ s) (hh : 0 ≤ h) (hn : ∀ x ∈ needs, 0 ≤ x) (a b : Nat) : 0 ≤ lotC needs s h a b := by
  have := holdN_nonneg needs h hh hn a (b - a)
  unfold lotC
  split <;> omega
theorem bestN_nonneg (needs : List Int) (s h : Int) (hs : 0 ≤ s) (hh : 0 ≤ h) (hn : ∀ x ∈ needs, 0 ≤ x) (n : Nat) : ∀ d, ∀ j ≤ d, 0 ≤ ((tbl needs s h n d).getD j (0, 0)).1 := by
  intro d
  induction d with
  | zero =>
    intro j hj
    obtain rfl : j = 0 := by omega
    simp [tbl]
  | succ d ih =>
    intro j hj
    cases j with
    | zero =>
      rw [tbl, List.getD_cons_zero]
      refine ((pickTo_facts needs s h (n - (d + 1)) (tbl needs s h n d) (d + 1) (fun j hj => ?_)).2 (by omega)).1
      have h1 := lotC_nonneg needs s h hs hh hn (n - (d + 1)) (n - (d + 1) + 1 + j)
      have h2 := ih j (by omega)
      omega
    | succ j =>
      rw [tbl, List.getD_cons_succ]
      exact ih j (by omega)
/-- The best is no more than any first lot with the best behind it, and is one of these. -/
theorem bestN_facts (needs : List Int) (s h : Int) (hs : 0 ≤ s) (hh : 0 ≤ h) (hn : ∀ x ∈ needs, 0 ≤ x) (n i : Nat) (hi : i < n) :
    (∀ j, i < j → j ≤ n → bestN needs s h n i ≤ lotC needs s h i j + bestN needs s h n j) ∧ i < nextN needs s h n i ∧ nextN needs s h n i ≤ n ∧ bestN needs s h n i = lotC needs s h i (nextN needs s h n i) + bestN needs s h n (nextN needs s h n i) := by
  obtain ⟨d, hd⟩ : ∃ d, n - i = d + 1 := ⟨n - i - 1, by omega⟩
  have hi2 : n - (d + 1) = i := by omega
  have hb : bestN needs s h n i = (pickTo needs s h i (tbl needs s h n d) (d + 1)).1 := by unfold bestN; rw [hd, tbl, List.getD_cons_zero, hi2]
  have hx : nextN needs s h n i = (pickTo needs s h i (tbl needs s h n d) (d + 1)).2 := by unfold nextN; rw [hd, tbl, List.getD_cons_zero, hi2]
  have hj : ∀ m, m ≤ d → ((tbl needs s h n d).getD m (0, 0)).1 = bestN needs s h n (i + 1 + m) := fun m hm => by
    unfold bestN
    rw [← tbl_drop needs s h n d (n - (i + 1 + m)) (by omega), show d - (n - (i + 1 + m)) = m by omega]
  obtain ⟨f1, f2⟩ := pickTo_facts needs s h i (tbl needs s h n d) (d + 1) (fun j hj => by
    have h1 := lotC_nonneg needs s h hs hh hn i (i + 1 + j)
    have h2 := bestN_nonneg needs s h hs hh hn n d j (by omega)
    omega)
  obtain ⟨_, j, hj1, hj2, hj3⟩ := f2 (by omega)
  rw [hb, hx, hj2]
  refine ⟨fun k hk1 hk2 => ?_, by omega, by omega, ?_⟩
  · have := f1 (k - (i + 1)) (by omega)
    rw [hj _ (by omega), show i + 1 + (k - (i + 1)) = k by omega] at this
    exact this
  · rw [hj3, hj _ (by omega)]
end Go.Proofs.Ytmkfinahbelpdaa
