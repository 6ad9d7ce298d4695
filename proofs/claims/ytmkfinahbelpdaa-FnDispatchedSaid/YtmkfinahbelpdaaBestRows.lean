/- The table of the best lots as two rows of numbers, and the starts that it chains. No program in sight. -/
import Derived.Test.YtmkfinahbelpdaaBestPlain
import Derived.Test.YtmkfinahbelpdaaPartPlain
namespace Go.Proofs.Ytmkfinahbelpdaa

def rowB (needs : List Int) (s h : Int) (n d : Nat) : List Int := List.replicate (n - d) 0 ++ (tbl needs s h n d).map (·.1)
def rowX (needs : List Int) (s h : Int) (n d : Nat) : List Int := List.replicate (n - d) 0 ++ (tbl needs s h n d).map (fun p => (p.2 : Int))
def midB (needs : List Int) (s h : Int) (n d m : Nat) : List Int := List.replicate (n - (d + 1)) 0 ++ (pickTo needs s h (n - (d + 1)) (tbl needs s h n d) m).1 :: (tbl needs s h n d).map (·.1)
def midX (needs : List Int) (s h : Int) (n d m : Nat) : List Int := List.replicate (n - (d + 1)) 0 ++ ((pickTo needs s h (n - (d + 1)) (tbl needs s h n d) m).2 : Int) :: (tbl needs s h n d).map (fun p => (p.2 : Int))
section
variable (needs : List Int) (s h : Int) (n d m : Nat)
theorem rep_split (hd : d < n) : List.replicate (n - d) (0 : Int) = List.replicate (n - (d + 1)) 0 ++ [0] := by
  rw [show n - d = (n - (d + 1)) + 1 by omega, List.replicate_succ']
theorem rowB_len (hd : d ≤ n) : (rowB needs s h n d).length = n + 1 := by simp [rowB, tbl_len]; omega
theorem rowX_len (hd : d ≤ n) : (rowX needs s h n d).length = n + 1 := by simp [rowX, tbl_len]; omega
theorem midB_len (hd : d < n) : (midB needs s h n d m).length = n + 1 := by simp [midB, tbl_len]; omega
theorem midX_len (hd : d < n) : (midX needs s h n d m).length = n + 1 := by simp [midX, tbl_len]; omega
theorem set_mid {α : Type} (a : List α) (x y : α) (b : List α) (i : Nat) (hi : i = a.length) : (a ++ x :: b).set i y = a ++ y :: b := by
  subst hi
  rw [List.set_append_right _ _ (Nat.le_refl _), Nat.sub_self, List.set_cons_zero]
theorem get_mid {α : Type} (a : List α) (x z : α) (b : List α) (i : Nat) (hi : i = a.length) : (a ++ x :: b).getD i z = x := by
  subst hi
  rw [List.getD_eq_getElem?_getD, List.getElem?_append_right (Nat.le_refl _), Nat.sub_self]; rfl
theorem get_far {α : Type} (a : List α) (x z : α) (b : List α) (i k : Nat) (hi : i = a.length) : (a ++ x :: b).getD (i + 1 + k) z = b.getD k z := by
  subst hi
  rw [List.getD_eq_getElem?_getD, List.getElem?_append_right (by omega), show a.length + 1 + k - a.length = k + 1 by omega, List.getElem?_cons_succ, ← List.getD_eq_getElem?_getD]
theorem rowB_start (hd : d < n) : (rowB needs s h n d).set (n - (d + 1)) (-1) = midB needs s h n d 0 := by
  unfold rowB midB
  rw [rep_split n d hd, List.append_assoc, List.singleton_append, set_mid _ _ _ _ _ (by simp)]; rfl
theorem rowX_start (hd : d < n) : rowX needs s h n d = midX needs s h n d 0 := by
  unfold rowX midX
  rw [rep_split n d hd, List.append_assoc, List.singleton_append]; rfl
theorem rowB_at (hd : d < n) : (rowB needs s h n d).getD (n - (d + 1)) 0 = 0 := by
  unfold rowB
  rw [rep_split n d hd, List.append_assoc, List.singleton_append, get_mid _ _ _ _ _ (by simp)]
theorem midB_at : (midB needs s h n d m).getD (n - (d + 1)) 0 = (pickTo needs s h (n - (d + 1)) (tbl needs s h n d) m).1 := get_mid _ _ _ _ _ (by simp)
theorem midX_at : (midX needs s h n d m).getD (n - (d + 1)) 0 = ((pickTo needs s h (n - (d + 1)) (tbl needs s h n d) m).2 : Int) := get_mid _ _ _ _ _ (by simp)
theorem midB_far (k : Nat) : (midB needs s h n d m).getD (n - (d + 1) + 1 + k) 0 = ((tbl needs s h n d).getD k (0, 0)).1 := by
  unfold midB
  rw [get_far _ _ _ _ _ _ (by simp), List.getD_eq_getElem?_getD, List.getElem?_map, List.getD_eq_getElem?_getD]
  cases (tbl needs s h n d)[k]? <;> rfl
theorem midB_end : midB needs s h n d (d + 1) = rowB needs s h n (d + 1) := rfl
theorem midX_end : midX needs s h n d (d + 1) = rowX needs s h n (d + 1) := rfl
theorem rowB_zero : rowB needs s h n 0 = List.replicate (n + 1) 0 := by unfold rowB; rw [List.replicate_succ']; rfl
theorem rowX_zero : rowX needs s h n 0 = List.replicate (n + 1) 0 := by unfold rowX; rw [List.replicate_succ']; rfl
/-- A candidate that is taken, and one that is not. -/
theorem mid_take (c : Int) (hc : c = lotC needs s h (n - (d + 1)) (n - (d + 1) + 1 + m) + ((tbl needs s h n d).getD m (0, 0)).1) (hp : (pickTo needs s h (n - (d + 1)) (tbl needs s h n d) m).1 < 0 ∨ c < (pickTo needs s h (n - (d + 1)) (tbl needs s h n d) m).1) :
    (midB needs s h n d m).set (n - (d + 1)) c = midB needs s h n d (m + 1) ∧ (midX needs s h n d m).set (n - (d + 1)) ((n - (d + 1) + 1 + m : Nat) : Int) = midX needs s h n d (m + 1) := by
  have e : pickTo needs s h (n - (d + 1)) (tbl needs s h n d) (m + 1) = (c, n - (d + 1) + 1 + m) := by
    simp only [pickTo, pickStep]
    rw [← hc, if_pos hp]
  unfold midB midX
  rw [e, set_mid _ _ _ _ _ (by simp), set_mid _ _ _ _ _ (by simp)]
  exact ⟨rfl, rfl⟩
theorem mid_skip (c : Int) (hc : c = lotC needs s h (n - (d + 1)) (n - (d + 1) + 1 + m) + ((tbl needs s h n d).getD m (0, 0)).1) (hp : ¬ ((pickTo needs s h (n - (d + 1)) (tbl needs s h n d) m).1 < 0 ∨ c < (pickTo needs s h (n - (d + 1)) (tbl needs s h n d) m).1)) :
    midB needs s h n d m = midB needs s h n d (m + 1) ∧ midX needs s h n d m = midX needs s h n d (m + 1) := by
  have e : pickTo needs s h (n - (d + 1)) (tbl needs s h n d) (m + 1) = pickTo needs s h (n - (d + 1)) (tbl needs s h n d) m := by
    simp only [pickTo, pickStep]
    rw [← hc, if_neg hp]
  unfold midB midX
  rw [e]
  exact ⟨rfl, rfl⟩
theorem rowB_all (i : Nat) (hi : i ≤ n) : (rowB needs s h n n).getD i 0 = bestN needs s h n i := by
  unfold rowB bestN
  rw [Nat.sub_self, List.replicate_zero, List.nil_append, ← tbl_drop needs s h n n (n - i) (by omega), show n - (n - i) = i by omega, List.getD_eq_getElem?_getD, List.getElem?_map, List.getD_eq_getElem?_getD]
  cases (tbl needs s h n n)[i]? <;> rfl
theorem rowX_all (i : Nat) (hi : i ≤ n) : (rowX needs s h n n).getD i 0 = (nextN needs s h n i : Int) := by
  unfold rowX nextN
  rw [Nat.sub_self, List.replicate_zero, List.nil_append, ← tbl_drop needs s h n n (n - i) (by omega), show n - (n - i) = i by omega, List.getD_eq_getElem?_getD, List.getElem?_map, List.getD_eq_getElem?_getD]
  cases (tbl needs s h n n)[i]? <;> rfl
end
/-- The starts that the table chains from period 0 on, at most k of them; and where the next one is. -/
def chain (needs : List Int) (s h : Int) (n : Nat) : Nat → List Nat × Nat
  | 0 => ([], 0)
  | k + 1 => if (chain needs s h n k).2 < n then ((chain needs s h n k).1 ++ [(chain needs s h n k).2], nextN needs s h n (chain needs s h n k).2) else chain needs s h n k
section
variable {needs : List Int} {s h : Int} {n : Nat}
theorem chain_stop {k : Nat} (hk : ¬ (chain needs s h n k).2 < n) : ∀ j, chain needs s h n (k + j) = chain needs s h n k := by
  intro j
  induction j with
  | zero => rfl
  | succ j ih =>
    rw [show k + (j + 1) = (k + j) + 1 by omega, chain, ih, if_neg hk]
structure ChainOk (needs : List Int) (s h : Int) (n k : Nat) : Prop where
  le : (chain needs s h n k).2 ≤ n
  mem : ∀ i ∈ (chain needs s h n k).1, i < (chain needs s h n k).2
  ups : Ups (chain needs s h n k).1
  len : (chain needs s h n k).1.length ≤ k
  far : k ≤ (chain needs s h n k).2 ∨ (chain needs s h n k).2 = n
theorem ups_snoc {S : List Nat} {i : Nat} (ih : Ups S) (hm : ∀ j ∈ S, j < i) : Ups (S ++ [i]) := fun a b hb hab => by
  simp only [List.length_append, List.length_cons, List.length_nil] at hb
  simp only [List.getElem_append]
  by_cases h1 : b < S.length
  · rw [dif_pos (by omega), dif_pos h1]; exact ih a b h1 hab
  · rw [dif_pos (by omega), dif_neg h1]
    have h2 := hm _ (List.getElem_mem (show a < S.length by omega))
    simp only [List.getElem_singleton]; exact h2
theorem ups_len {S : List Nat} {i : Nat} (hu : Ups S) (hm : ∀ j ∈ S, j < i) : S.length ≤ i := by
  have h : ∀ k, ∀ hk : k < S.length, k ≤ S[k] := by
    intro k
    induction k with
    | zero => intro _; exact Nat.zero_le _
    | succ k ih => intro hk; have h1 := ih (by omega); have h2 := hu k (k + 1) hk (by omega); omega
  rcases Nat.eq_zero_or_pos S.length with h0 | h0
  · omega
  · have h1 := h (S.length - 1) (by omega)
    have h2 := hm _ (List.getElem_mem (show S.length - 1 < S.length by omega))
    omega
theorem chain_ok (hx : ∀ i, i < n → i < nextN needs s h n i ∧ nextN needs s h n i ≤ n) (k : Nat) : ChainOk needs s h n k := by
  induction k with
  | zero => exact ⟨Nat.zero_le _, fun i hi => by simp [chain] at hi, fun i j hj => by simp [chain] at hj, by simp [chain], .inl (Nat.le_refl _)⟩
  | succ k ih =>
    obtain ⟨h1, h2, h3, h4, h5⟩ := ih
    by_cases hc : (chain needs s h n k).2 < n
    · have e : chain needs s h n (k + 1) = ((chain needs s h n k).1 ++ [(chain needs s h n k).2], nextN needs s h n (chain needs s h n k).2) := by simp only [chain]; rw [if_pos hc]
      obtain ⟨x1, x2⟩ := hx _ hc
      constructor
      · rw [e]; exact x2
      · rw [e]
        intro i hi
        simp only [List.mem_append, List.mem_singleton] at hi
        rcases hi with hi | rfl
        · have := h2 i hi; simp only; omega
        · exact x1
      · rw [e]; exact ups_snoc h3 h2
      · rw [e]; simp; omega
      · rw [e]; left
        rcases h5 with h5 | h5
        · simp only; omega
        · simp only; omega
    · have e : chain needs s h n (k + 1) = chain needs s h n k := by simp only [chain]; rw [if_neg hc]
      constructor <;> rw [e]
      · exact h1
      · exact h2
      · exact h3
      · omega
      · right; omega
theorem chain_end (hx : ∀ i, i < n → i < nextN needs s h n i ∧ nextN needs s h n i ≤ n) {k : Nat} (hk : ¬ (chain needs s h n k).2 < n) : chain needs s h n k = chain needs s h n n := by
  rcases Nat.lt_or_ge n k with h1 | h1
  · have h2 : ¬ (chain needs s h n n).2 < n := by have := (chain_ok hx n).far; omega
    have := chain_stop h2 (k - n)
    rw [show n + (k - n) = k by omega] at this
    exact this
  · have := chain_stop hk (n - k)
    rw [show k + (n - k) = n by omega] at this
    exact this.symm
theorem lots16_next (needs : List Int) (S : List Nat) (i e : Nat) :
    (lots16 needs S i S.length).set i (seg needs i e) = lots16 needs (S ++ [i]) e (S ++ [i]).length := by
  have hlen : (S ++ [i]).length = S.length + 1 := by simp
  rw [hlen]
  simp only [lots16]
  have e1 : (S ++ [i]).getD S.length 0 = i := by rw [List.getD_eq_getElem?_getD]; simp
  have e2 : (S ++ [i]).getD (S.length + 1) e = e := by rw [List.getD_eq_getElem?_getD, List.getElem?_eq_none (by simp)]; rfl
  rw [e1, e2, lots16_congr needs (S ++ [i]) S e i S.length (fun j hj => ⟨by
    rw [List.getD_eq_getElem?_getD, List.getD_eq_getElem?_getD, List.getElem?_append_left hj], by
    rcases Nat.lt_or_ge (j + 1) S.length with h1 | h1
    · rw [List.getD_eq_getElem?_getD, List.getD_eq_getElem?_getD, List.getElem?_append_left h1, List.getElem?_eq_getElem h1]; rfl
    · have h2 : j + 1 = S.length := by omega
      rw [h2, List.getD_eq_getElem?_getD, List.getD_eq_getElem?_getD, List.getElem?_eq_none (show S.length ≤ S.length from Nat.le_refl _)]
      simp⟩)]
end
/-! Bounds. -/
theorem lotC_le {needs : List Int} {s h : Int} (hn : ∀ x ∈ needs, 0 ≤ x ∧ x ≤ 1000) (hs : 0 ≤ s ∧ s ≤ 10000) (hh : 0 ≤ h ∧ h ≤ 10000) (a d : Nat) (hd : d ≤ 10) : 0 ≤ holdN needs h a d ∧ holdN needs h a d ≤ 100000000 * d := by
  induction d with
  | zero => simp [holdN]
  | succ d ih =>
    obtain ⟨i1, i2⟩ := ih (by omega)
    have g : 0 ≤ needs.getD (a + d) 0 ∧ needs.getD (a + d) 0 ≤ 1000 := by
      rcases Nat.lt_or_ge (a + d) needs.length with h3 | h3
      · rw [List.getD_eq_getElem?_getD, List.getElem?_eq_getElem h3]; exact hn _ (List.getElem_mem h3)
      · rw [List.getD_eq_getElem?_getD, List.getElem?_eq_none h3]; exact ⟨Int.le_refl _, by decide⟩
    have m1 : 0 ≤ h * needs.getD (a + d) 0 := Int.mul_nonneg hh.1 g.1
    have m2 : h * needs.getD (a + d) 0 ≤ 10000 * 1000 := Int.le_trans (Int.mul_le_mul_of_nonneg_right hh.2 g.1) (Int.mul_le_mul_of_nonneg_left g.2 (by decide))
    have m3 : 0 ≤ h * needs.getD (a + d) 0 * (d : Int) := Int.mul_nonneg m1 (by omega)
    have m4 : h * needs.getD (a + d) 0 * (d : Int) ≤ 10000000 * 10 := Int.le_trans (Int.mul_le_mul_of_nonneg_right m2 (by omega)) (Int.mul_le_mul_of_nonneg_left (by omega) (by decide))
    simp only [holdN]; omega
theorem lotC_bd {needs : List Int} {s h : Int} (hn : ∀ x ∈ needs, 0 ≤ x ∧ x ≤ 1000) (hs : 0 ≤ s ∧ s ≤ 10000) (hh : 0 ≤ h ∧ h ≤ 10000) (a b : Nat) (hd : b ≤ a + 10) : 0 ≤ lotC needs s h a b ∧ lotC needs s h a b ≤ 1000010000 := by
  obtain ⟨h1, h2⟩ := lotC_le hn hs hh a (b - a) (by omega)
  unfold lotC
  split <;> omega
theorem tbl_bd {needs : List Int} {s h : Int} (hn : ∀ x ∈ needs, 0 ≤ x ∧ x ≤ 1000) (hs : 0 ≤ s ∧ s ≤ 10000) (hh : 0 ≤ h ∧ h ≤ 10000) (n : Nat) (hn10 : n ≤ 10) (d : Nat) (hd : d ≤ n) : ∀ j ≤ d, 0 ≤ ((tbl needs s h n d).getD j (0, 0)).1 ∧ ((tbl needs s h n d).getD j (0, 0)).1 ≤ 2000000000 * d := by
  intro j hj
  refine ⟨bestN_nonneg needs s h hs.1 hh.1 (fun x hx => (hn x hx).1) n d j hj, ?_⟩
  induction d generalizing j with
  | zero =>
    obtain rfl : j = 0 := by omega
    simp [tbl]
  | succ d ih =>
    cases j with
    | zero =>
      rw [tbl, List.getD_cons_zero]
      have hc : ∀ j < d + 1, 0 ≤ lotC needs s h (n - (d + 1)) (n - (d + 1) + 1 + j) + ((tbl needs s h n d).getD j (0, 0)).1 := fun j hj => by
        have h1 := lotC_nonneg needs s h hs.1 hh.1 (fun x hx => (hn x hx).1) (n - (d + 1)) (n - (d + 1) + 1 + j)
        have h2 := bestN_nonneg needs s h hs.1 hh.1 (fun x hx => (hn x hx).1) n d j (by omega)
        omega
      have h1 := (pickTo_facts needs s h (n - (d + 1)) (tbl needs s h n d) (d + 1) hc).1 0 (by omega)
      have h2 := (lotC_bd hn hs hh (n - (d + 1)) (n - (d + 1) + 1 + 0) (by omega)).2
      have h3 := ih (by omega) 0 (by omega)
      omega
    | succ j =>
      rw [tbl, List.getD_cons_succ]
      have := ih (by omega) j (by omega)
      omega
theorem pick_bd {needs : List Int} {s h : Int} (hn : ∀ x ∈ needs, 0 ≤ x ∧ x ≤ 1000) (hs : 0 ≤ s ∧ s ≤ 10000) (hh : 0 ≤ h ∧ h ≤ 10000) (n : Nat) (hn10 : n ≤ 10) (d : Nat) (hd : d < n) (m : Nat) (hm : m ≤ d + 1) : -1 ≤ (pickTo needs s h (n - (d + 1)) (tbl needs s h n d) m).1 ∧ (pickTo needs s h (n - (d + 1)) (tbl needs s h n d) m).1 ≤ 30000000000 := by
  induction m with
  | zero => simp [pickTo]
  | succ m ih =>
    obtain ⟨i1, i2⟩ := ih (by omega)
    obtain ⟨c1, c2⟩ := lotC_bd hn hs hh (n - (d + 1)) (n - (d + 1) + 1 + m) (by omega)
    obtain ⟨t1, t2⟩ := tbl_bd hn hs hh n hn10 d (by omega) m (by omega)
    simp only [pickTo, pickStep]
    split
    · simp only; omega
    · exact ⟨i1, i2⟩
/-- The cost of one lot as the program reckons it: by the slice of its periods. -/
def partC (l : List Int) (s h : Int) : Int := if sumN l l.length = 0 then 0 else s + holdN l h 0 l.length
theorem holdN_cut (l : List Int) (h : Int) (a k m : Nat) (hk : k ≤ m) (hm : a + m ≤ l.length) : holdN ((l.drop a).take m) h 0 k = holdN l h a k := by
  induction k with
  | zero => rfl
  | succ k ih =>
    have h1 : ((l.drop a).take m).getD (0 + k) 0 = l.getD (a + k) 0 := by
      rw [Nat.zero_add, List.getD_eq_getElem?_getD, List.getElem?_take_of_lt (by omega), List.getElem?_drop, ← List.getD_eq_getElem?_getD]
    simp only [holdN]
    rw [ih (by omega), h1]
theorem sumN_zero {l : List Int} (hn : ∀ x ∈ l, 0 ≤ x) (n : Nat) (hz : sumN l n ≤ 0) : ∀ j < n, l.getD j 0 = 0 := by
  intro j hj
  have h1 := sumN_mono l hn 0 j (by omega)
  have h2 := sumN_mono l hn (j + 1) n (by omega)
  have h3 : 0 ≤ l.getD j 0 := by
    rcases Nat.lt_or_ge j l.length with h3 | h3
    · rw [List.getD_eq_getElem?_getD, List.getElem?_eq_getElem h3]; exact hn _ (List.getElem_mem h3)
    · rw [List.getD_eq_getElem?_getD, List.getElem?_eq_none h3]; exact Int.le_refl _
  simp only [sumN] at h1 h2
  omega
theorem holdN_zero {l : List Int} (h : Int) (n : Nat) (hz : ∀ j < n, l.getD j 0 = 0) : holdN l h 0 n = 0 := by
  induction n with
  | zero => rfl
  | succ n ih =>
    simp only [holdN]
    rw [ih (fun j hj => hz j (by omega)), Nat.zero_add, hz n (by omega)]; simp
theorem partC_cut {l : List Int} {s h : Int} (hn : ∀ x ∈ l, 0 ≤ x) (a b : Nat) (hab : a ≤ b) (hb : b ≤ l.length) (hcut : sumN ((l.drop a).take (b - a)) ((l.drop a).take (b - a)).length = seg l a b) : partC ((l.drop a).take (b - a)) s h = lotC l s h a b := by
  have hlen : ((l.drop a).take (b - a)).length = b - a := by simp; omega
  have hin : ∀ x ∈ (l.drop a).take (b - a), 0 ≤ x := fun x hx => hn x (List.mem_of_mem_drop (List.mem_of_mem_take hx))
  have h0 : 0 ≤ seg l a b := by have := sumN_mono l hn a b hab; unfold seg; omega
  unfold partC lotC
  rw [hcut, hlen, holdN_cut l h a (b - a) (b - a) (Nat.le_refl _) (by omega)]
  by_cases hz : seg l a b = 0
  · rw [if_pos hz, if_neg (by omega)]
    rw [← holdN_cut l h a (b - a) (b - a) (Nat.le_refl _) (by omega), holdN_zero h (b - a) (sumN_zero hin (b - a) (by have := hcut; rw [hlen] at this; omega))]
    rfl
  · rw [if_neg hz, if_pos (by omega)]; omega
end Go.Proofs.Ytmkfinahbelpdaa
