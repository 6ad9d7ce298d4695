/- Plain laws of lots that begin at given periods, and of the part-period rule: the reference's way and the program's come to one. -/
import Derived.Test.YtmkfinahbelpdaaBestPlain
namespace Go.Proofs.Ytmkfinahbelpdaa

/-- The lots of the first k starts; the last of all starts serves up to period e. -/
def lots16 (needs : List Int) (starts : List Nat) (e : Nat) : Nat → List Int
  | 0 => List.replicate needs.length 0
  | k + 1 => (lots16 needs starts e k).set (starts.getD k 0) (seg needs (starts.getD k 0) (starts.getD (k + 1) e))
theorem lots16_len (needs : List Int) (starts : List Nat) (e k : Nat) : (lots16 needs starts e k).length = needs.length := by
  induction k with
  | zero => simp [lots16]
  | succ k ih => simp [lots16, ih]
theorem lots16_congr (needs : List Int) (a b : List Nat) (e f k : Nat) (h : ∀ j < k, a.getD j 0 = b.getD j 0 ∧ a.getD (j + 1) e = b.getD (j + 1) f) : lots16 needs a e k = lots16 needs b f k := by
  induction k with
  | zero => rfl
  | succ k ih =>
    obtain ⟨h1, h2⟩ := h k (by omega)
    simp only [lots16]
    rw [ih (fun j hj => h j (by omega)), h1, h2]
theorem lots16_far (needs : List Int) (starts : List Nat) (e k i : Nat) (h : ∀ j < k, starts.getD j 0 ≠ i) : (lots16 needs starts e k).getD i 0 = 0 := by
  induction k with
  | zero => simp only [lots16, List.getD_eq_getElem?_getD, List.getElem?_replicate]; split <;> rfl
  | succ k ih =>
    simp only [lots16]
    rw [List.getD_eq_getElem?_getD, List.getElem?_set_ne (h k (by omega)), ← List.getD_eq_getElem?_getD]
    exact ih (fun j hj => h j (by omega))
def lastOf (l : List Nat) : Nat := l.getD (l.length - 1) 0
theorem lastOf_snoc (l : List Nat) (i : Nat) : lastOf (l ++ [i]) = i := by
  unfold lastOf
  rw [List.getD_eq_getElem?_getD]; simp
/-- One period more by the part-period rule. -/
def partStep (needs : List Int) (s h : Int) (st : List Nat × Int) (i : Nat) : List Nat × Int :=
  if st.1.length = 0 then (st.1 ++ [i], 0)
  else if s < st.2 + h * needs.getD i 0 * ((i : Int) - (lastOf st.1 : Int)) then (st.1 ++ [i], 0) else (st.1, st.2 + h * needs.getD i 0 * ((i : Int) - (lastOf st.1 : Int)))
def partTo (needs : List Int) (s h : Int) : Nat → List Nat × Int
  | 0 => ([], 0)
  | k + 1 => partStep needs s h (partTo needs s h k) k
theorem partTo_mem (needs : List Int) (s h : Int) (k : Nat) : ∀ i ∈ (partTo needs s h k).1, i < k := by
  induction k with
  | zero => intro i hi; simp [partTo] at hi
  | succ k ih =>
    have hsnoc : ∀ i ∈ (partTo needs s h k).1 ++ [k], i < k + 1 := fun i hi => by
      rcases List.mem_append.1 hi with h1 | h1
      · have := ih i h1; omega
      · have : i = k := by simpa using h1
        omega
    intro i hi
    simp only [partTo, partStep] at hi
    split at hi
    · exact hsnoc i hi
    · split at hi
      · exact hsnoc i hi
      · have := ih i hi; omega
theorem partTo_some (needs : List Int) (s h : Int) (k : Nat) : 0 < (partTo needs s h (k + 1)).1.length := by
  simp only [partTo, partStep]
  split
  · simp
  · split
    · simp
    · simp only; omega
theorem partTo_len (needs : List Int) (s h : Int) (k : Nat) : (partTo needs s h k).1.length ≤ k := by
  induction k with
  | zero => simp [partTo]
  | succ k ih =>
    simp only [partTo, partStep]
    split
    · simp; omega
    · split
      · simp; omega
      · simp only; omega
theorem lastOf_lt {l : List Nat} {k : Nat} (h : ∀ i ∈ l, i < k) (hl : 0 < l.length) : lastOf l < k := by
  unfold lastOf
  rw [List.getD_eq_getElem?_getD, List.getElem?_eq_getElem (by omega)]
  exact h _ (List.getElem_mem _)
/-- The starts ascend. -/
def Ups (l : List Nat) : Prop := ∀ i j (hj : j < l.length) (_ : i < j), l[i]'(by omega) < l[j]
theorem partTo_ups (needs : List Int) (s h : Int) (k : Nat) : Ups (partTo needs s h k).1 := by
  induction k with
  | zero => intro i j hj; simp [partTo] at hj
  | succ k ih =>
    have hm := partTo_mem needs s h k
    have hsnoc : Ups ((partTo needs s h k).1 ++ [k]) := fun i j hj hij => by
      simp only [List.length_append, List.length_cons, List.length_nil] at hj
      simp only [List.getElem_append]
      by_cases h1 : j < (partTo needs s h k).1.length
      · rw [dif_pos (by omega), dif_pos h1]; exact ih i j h1 hij
      · rw [dif_pos (by omega), dif_neg h1]
        have h2 := hm _ (List.getElem_mem (show i < (partTo needs s h k).1.length by omega))
        simp only [List.getElem_singleton]; exact h2
    simp only [partTo, partStep]
    split
    · exact hsnoc
    · split
      · exact hsnoc
      · exact ih
/-- A need more for the last start. -/
theorem lots16_more (needs : List Int) (starts : List Nat) (k : Nat) (hs : 0 < starts.length) (hl : lastOf starts < needs.length) :
    (lots16 needs starts k starts.length).set (lastOf starts) ((lots16 needs starts k starts.length).getD (lastOf starts) 0 + needs.getD k 0) = lots16 needs starts (k + 1) starts.length := by
  obtain ⟨m, hm⟩ : ∃ m, starts.length = m + 1 := ⟨starts.length - 1, by omega⟩
  have hlast : lastOf starts = starts.getD m 0 := by unfold lastOf; rw [hm]; rfl
  have he : ∀ e, starts.getD (m + 1) e = e := fun e => by rw [List.getD_eq_getElem?_getD, List.getElem?_eq_none (by omega)]; rfl
  rw [hm, hlast]
  simp only [lots16]
  rw [he k, he (k + 1), lots16_congr needs starts starts k (k + 1) m (fun j hj => ⟨rfl, by
    rw [List.getD_eq_getElem?_getD, List.getD_eq_getElem?_getD, List.getElem?_eq_getElem (by omega)]; rfl⟩)]
  have hlen := lots16_len needs starts (k + 1) m
  rw [hlast] at hl
  have hget : ((lots16 needs starts (k + 1) m).set (starts.getD m 0) (seg needs (starts.getD m 0) k)).getD (starts.getD m 0) 0 = seg needs (starts.getD m 0) k := by
    rw [List.getD_eq_getElem?_getD, List.getElem?_set_self (by rw [hlen]; exact hl)]; rfl
  rw [hget, List.set_set]
  congr 1
  simp only [seg, sumN]; omega
/-- A new start. -/
theorem lots16_new (needs : List Int) (starts : List Nat) (k : Nat) (hk : k < needs.length) (hs : ∀ i ∈ starts, i < k) :
    (lots16 needs starts k starts.length).set k ((lots16 needs starts k starts.length).getD k 0 + needs.getD k 0) = lots16 needs (starts ++ [k]) (k + 1) (starts ++ [k]).length := by
  have hz : (lots16 needs starts k starts.length).getD k 0 = 0 := lots16_far needs starts k starts.length k (fun j hj => by
    rw [List.getD_eq_getElem?_getD, List.getElem?_eq_getElem hj]
    have := hs _ (List.getElem_mem hj)
    simp only [Option.getD_some]; omega)
  have hlen : (starts ++ [k]).length = starts.length + 1 := by simp
  rw [hz, hlen]
  simp only [lots16]
  have e1 : (starts ++ [k]).getD starts.length 0 = k := by rw [List.getD_eq_getElem?_getD]; simp
  have e2 : (starts ++ [k]).getD (starts.length + 1) (k + 1) = k + 1 := by rw [List.getD_eq_getElem?_getD, List.getElem?_eq_none (by simp)]; rfl
  rw [e1, e2, lots16_congr needs (starts ++ [k]) starts (k + 1) k starts.length (fun j hj => ⟨by
    rw [List.getD_eq_getElem?_getD, List.getD_eq_getElem?_getD, List.getElem?_append_left hj], by
    rcases Nat.lt_or_ge (j + 1) starts.length with h1 | h1
    · rw [List.getD_eq_getElem?_getD, List.getD_eq_getElem?_getD, List.getElem?_append_left h1, List.getElem?_eq_getElem h1]; rfl
    · have h2 : j + 1 = starts.length := by omega
      rw [h2, List.getD_eq_getElem?_getD, List.getD_eq_getElem?_getD, List.getElem?_eq_none (show starts.length ≤ starts.length from Nat.le_refl _)]
      simp⟩)]
  congr 1
  simp only [seg, sumN]; omega
end Go.Proofs.Ytmkfinahbelpdaa
