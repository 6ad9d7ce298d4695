/- The last end of all jobs is the end of the schedule (plain). -/
import Derived.Test.YtmkfinahbelpdaaTardiness
import Derived.Test.YtmkfinahbelpdaaWorkLaw
namespace Go.Proofs.Ytmkfinahbelpdaa
def endTo (slots : List Slt) : Nat → Int
  | 0 => 0
  | k + 1 => max (endTo slots k) (finishOf slots k)
theorem finishTo_le {slots : List Slt} {m : Int} (hm : 0 ≤ m) (h : ∀ i (hi : i < slots.length), slots[i].2.2.2.2 ≤ m) (j : Int) (k : Nat) (hk : k ≤ slots.length) : finishTo slots j k ≤ m := by
  induction k with
  | zero => simpa [finishTo] using hm
  | succ k ih =>
    rw [finishTo_succ _ _ _ (by omega)]
    have h1 := ih (by omega)
    have h2 := h k (by omega)
    split <;> omega
theorem finish_ge (l : List Slt) (i : Nat) (hi : i < l.length) (j : Int) (hj : l[i].1 = j) : l[i].2.2.2.2 ≤ finishOf l j := by
  have key : ∀ k, k ≤ l.length → i < k → l[i].2.2.2.2 ≤ finishTo l j k := by
    intro k
    induction k with
    | zero => intro _ h; omega
    | succ k ih =>
      intro hk hik
      rw [finishTo_succ _ _ _ (by omega)]
      by_cases e : i = k
      · subst e
        rw [if_pos (by simp [hj])]; omega
      · have := ih (by omega) (by omega)
        split <;> omega
  exact key _ (Nat.le_refl _) hi
theorem endTo_nonneg (slots : List Slt) (k : Nat) : 0 ≤ endTo slots k := by
  induction k with
  | zero => exact Int.le_refl _
  | succ k ih => simp only [endTo]; omega
theorem endTo_le (slots : List Slt) (k : Nat) : endTo slots k ≤ makespanOf slots := by
  induction k with
  | zero => exact makespan_nonneg _
  | succ k ih =>
    have := finishTo_le (makespan_nonneg slots) (fun i hi => makespan_ge slots i hi) k slots.length (Nat.le_refl _)
    simp only [endTo]
    have h2 : finishOf slots k ≤ makespanOf slots := this
    omega
theorem endTo_ge (slots : List Slt) (k j : Nat) (hj : j < k) : finishOf slots j ≤ endTo slots k := by
  induction k with
  | zero => omega
  | succ k ih =>
    simp only [endTo]
    by_cases e : j = k
    · subst e; omega
    · have := ih (by omega); omega
theorem end_eq {jobs : List Jb} {slots : List Slt} (hs : isSched jobs slots = true) : endTo slots jobs.length = makespanOf slots := by
  have h1 := endTo_le slots jobs.length
  have h2 := (isSched_parts hs).2.2
  have key : ∀ k, k ≤ slots.length → makespanTo slots k ≤ endTo slots jobs.length := by
    intro k
    induction k with
    | zero => intro _; exact endTo_nonneg _ _
    | succ k ih =>
      intro hk
      rw [makespanTo_succ _ _ (by omega)]
      have h3 := ih (by omega)
      obtain ⟨a, b, ho⟩ := slot_ok h2 (show k < slots.length by omega)
      have h4 := finish_ge slots k (by omega) a ho.job
      have h5 := endTo_ge slots jobs.length a ho.ha
      omega
  have := key _ (Nat.le_refl _)
  have e : makespanOf slots = makespanTo slots slots.length := rfl
  omega
end Go.Proofs.Ytmkfinahbelpdaa
