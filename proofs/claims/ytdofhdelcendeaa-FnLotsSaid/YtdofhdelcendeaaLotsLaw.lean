/- What lots are: they come in time, as the rule says, and a fixed size leaves less than one lot over. -/
import Derived.Test.YtdofhdelcendeaaLotsPlain
import Derived.Test.YtdofhdelcendeaaLotting
import Derived.Test.YtdofhdelcendeaaPegsLaw
namespace Go.Proofs.Ytdofhdelcendeaa

theorem bump_split (l : List Fl) (h : 0 < l.length) (q : Int) : l = l.take (l.length - 1) ++ [(lastDay l, (l.getD (l.length - 1) (0, 0)).2)] ∧ bump l q = l.take (l.length - 1) ++ [(lastDay l, (l.getD (l.length - 1) (0, 0)).2 + q)] := by
  have hk : l.length - 1 < l.length := by omega
  refine ⟨?_, ?_⟩
  · unfold lastDay
    rw [getD_at _ _ _ hk]
    have h1 : l.take (l.length - 1 + 1) = l := by rw [show l.length - 1 + 1 = l.length by omega, List.take_length]
    rw [List.take_succ_eq_append_getElem hk] at h1
    exact h1.symm
  · unfold bump
    rw [List.set_eq_take_append_cons_drop, if_pos hk, show l.length - 1 + 1 = l.length by omega, List.drop_length]
theorem upTo_bump (l : List Fl) (h : 0 < l.length) (q e : Int) : upTo (bump l q) e = upTo l e + if lastDay l ≤ e then q else 0 := by
  obtain ⟨h1, h2⟩ := bump_split l h q
  have h3 : upTo l e = upTo (l.take (l.length - 1)) e + upTo [(lastDay l, (l.getD (l.length - 1) (0, 0)).2)] e := by rw [← upTo_append, ← h1]
  rw [h2, upTo_append, h3]
  simp only [upTo]
  split <;> omega
theorem fSum_bump (l : List Fl) (h : 0 < l.length) (q : Int) : fSum (bump l q) = fSum l + q := by
  obtain ⟨h1, h2⟩ := bump_split l h q
  have h3 : fSum l = fSum (l.take (l.length - 1)) + fSum [(lastDay l, (l.getD (l.length - 1) (0, 0)).2)] := by rw [← fSum_append, ← h1]
  rw [h2, fSum_append, h3]
  simp only [fSum]
  omega
theorem bump_day (l : List Fl) (q : Int) (j : Nat) (hj : j < (bump l q).length) : ((bump l q)[j]).1 = (l[j]'(by rw [bump_len] at hj; exact hj)).1 := by
  have hj2 : j < l.length := by rw [bump_len] at hj; exact hj
  have : (bump l q)[j] = (l.set (l.length - 1) (lastDay l, (l.getD (l.length - 1) (0, 0)).2 + q))[j]'(by simpa [bump] using hj) := rfl
  rw [this, List.getElem_set]
  split
  · rename_i he
    subst he
    unfold lastDay
    rw [getD_at _ _ _ hj2]
  · rfl
/-- Each lot lies at least 'size' days behind the one before. -/
def Spaced (size : Int) (l : List Fl) : Prop := ∀ j (hj : j < l.length), 0 < j → (l[j - 1]'(by omega)).1 + size ≤ l[j].1
section
variable {rule size : Int} {needs : List Fl}
theorem lot0 (k : Nat) (hk : k ≤ needs.length) : (lotTo 0 size needs k).1 = needs.take k := by
  induction k with
  | zero => simp [lotTo]
  | succ k ih =>
    rw [lotTo_succ 0 size needs k (by omega)]
    unfold lotStep
    rw [if_neg (by omega), if_neg (by omega)]
    simp only
    rw [ih (by omega), List.take_succ_eq_append_getElem (by omega)]
theorem lot1 (hs : 1 ≤ size) (hn : ∀ f ∈ needs, 1 ≤ f.2) (k : Nat) (hk : k ≤ needs.length) :
    fSum (lotTo 1 size needs k).1 = fSum (needs.take k) + (lotTo 1 size needs k).2 ∧ 0 ≤ (lotTo 1 size needs k).2 ∧ (lotTo 1 size needs k).2 < size ∧ ∀ f ∈ (lotTo 1 size needs k).1, ∃ m : Int, f.2 = m * size := by
  induction k with
  | zero => simp [lotTo, fSum]; omega
  | succ k ih =>
    obtain ⟨h1, h2, h3, h4⟩ := ih (by omega)
    have hq := hn _ (List.getElem_mem (show k < needs.length by omega))
    rw [lotTo_succ 1 size needs k (by omega), fSum_take needs k (by omega)]
    generalize lotTo 1 size needs k = st at *
    obtain ⟨out, sp⟩ := st
    dsimp only at h1 h2 h3 h4
    unfold lotStep
    rw [if_pos rfl]
    split
    · rename_i hc
      dsimp only at hc ⊢
      have e1 := Int.mul_ediv_add_emod (needs[k].2 - sp + size - 1) size
      have e2 := Int.emod_nonneg (needs[k].2 - sp + size - 1) (show size ≠ 0 by omega)
      have e3 := Int.emod_lt_of_pos (needs[k].2 - sp + size - 1) (show 0 < size by omega)
      have e4 : lotUp (needs[k].2 - sp) size = size * ((needs[k].2 - sp + size - 1) / size) := Int.mul_comm _ _
      refine ⟨?_, by omega, by omega, fun f hf => ?_⟩
      · rw [fSum_append]; simp only [fSum]; omega
      · rcases List.mem_append.1 hf with h | h
        · exact h4 f h
        · have : f = (needs[k].1, lotUp (needs[k].2 - sp) size) := by simpa using h
          rw [this]; exact ⟨_, rfl⟩
    · rename_i hc
      dsimp only at hc ⊢
      exact ⟨by omega, by omega, by omega, h4⟩
theorem lot2 (k : Nat) (hk : k ≤ needs.length) : fSum (lotTo 2 size needs k).1 = fSum (needs.take k) ∧ Spaced size (lotTo 2 size needs k).1 := by
  induction k with
  | zero => exact ⟨by simp [lotTo, fSum], fun j hj => by simp [lotTo] at hj⟩
  | succ k ih =>
    obtain ⟨h1, h2⟩ := ih (by omega)
    rw [fSum_take needs k (by omega), lotTo_succ 2 size needs k (by omega)]
    generalize lotTo 2 size needs k = st at *
    obtain ⟨out, sp⟩ := st
    dsimp only at h1 h2
    unfold lotStep
    rw [if_neg (by omega)]
    by_cases hc : (2 : Int) = 2 ∧ 0 < out.length ∧ needs[k].1 < lastDay out + size
    · rw [if_pos hc]
      refine ⟨by rw [fSum_bump _ hc.2.1]; omega, fun j hj h0 => ?_⟩
      dsimp only at hj ⊢
      have e1 := bump_day out needs[k].2 j hj
      have e2 := bump_day out needs[k].2 (j - 1) (by omega)
      rw [e1, e2]
      exact h2 j (by simpa [bump_len] using hj) h0
    · rw [if_neg hc]
      refine ⟨by rw [fSum_append]; simp only [fSum]; omega, fun j hj h0 => ?_⟩
      simp only [List.length_append, List.length_cons, List.length_nil] at hj
      simp only [List.getElem_append]
      by_cases hl : j < out.length
      · rw [dif_pos (by omega), dif_pos hl]
        exact h2 j hl h0
      · obtain rfl : j = out.length := by omega
        rw [dif_pos (by omega), dif_neg hl]
        simp only [Nat.sub_self, List.getElem_cons_zero]
        have : ¬ needs[k].1 < lastDay out + size := fun h => hc ⟨rfl, h0, h⟩
        unfold lastDay at this
        rw [getD_at _ _ _ (show out.length - 1 < out.length by omega)] at this
        omega
/-- The lots of the first needs lie no later than these. -/
theorem lot_days (ha : ascends needs) (k : Nat) (hk : k ≤ needs.length) : ∀ f ∈ (lotTo rule size needs k).1, ∃ (j : Nat) (hj : j < needs.length), j < k ∧ f.1 = needs[j].1 := by
  induction k with
  | zero => intro f hf; simp [lotTo] at hf
  | succ k ih =>
    have ih2 := ih (by omega)
    have hmore : ∀ f ∈ (lotTo rule size needs k).1, ∃ (j : Nat) (hj : j < needs.length), j < k + 1 ∧ f.1 = needs[j].1 := fun f hf => by
      obtain ⟨j, hj, h1, h2⟩ := ih2 f hf
      exact ⟨j, hj, by omega, h2⟩
    rw [lotTo_succ rule size needs k (by omega)]
    generalize lotTo rule size needs k = st at *
    obtain ⟨out, sp⟩ := st
    dsimp only at hmore
    have hnew : ∀ q : Int, ∀ f ∈ out ++ [(needs[k].1, q)], ∃ (j : Nat) (hj : j < needs.length), j < k + 1 ∧ f.1 = needs[j].1 := fun q f hf => by
      rcases List.mem_append.1 hf with h | h
      · exact hmore f h
      · have : f = (needs[k].1, q) := by simpa using h
        rw [this]; exact ⟨k, by omega, by omega, rfl⟩
    unfold lotStep
    split
    · split
      · exact hnew _
      · exact hmore
    · split
      · rename_i hc
        intro f hf
        simp only [bump] at hf
        rcases List.mem_or_eq_of_mem_set hf with h | h
        · exact hmore f h
        · have hk2 : out.length - 1 < out.length := by have := hc.2.1; simp only at this; omega
          rw [h]
          unfold lastDay
          simp only
          rw [getD_at _ _ _ hk2]
          exact hmore _ (List.getElem_mem hk2)
      · exact hnew needs[k].2
/-- What later needs do to the lots up to an earlier day. -/
theorem lot_later (ha : ascends needs) (hq : ∀ f ∈ needs, 1 ≤ f.2) (i : Nat) (hi : i < needs.length) (k : Nat) (hk : k ≤ needs.length) (hik : i + 1 ≤ k) :
    fSum (lotTo rule size needs (i + 1)).1 ≤ upTo (lotTo rule size needs k).1 needs[i].1 ∧ (rule ≠ 2 → upTo (lotTo rule size needs k).1 needs[i].1 = fSum (lotTo rule size needs (i + 1)).1) := by
  induction k with
  | zero => omega
  | succ k ih =>
    rcases Nat.lt_or_ge i k with hlt | hge
    · obtain ⟨h1, h2⟩ := ih (by omega) (by omega)
      have hd := ha i k (by omega) hlt
      have hp := hq _ (List.getElem_mem (show k < needs.length by omega))
      rw [lotTo_succ rule size needs k (by omega)]
      generalize lotTo rule size needs k = st at *
      obtain ⟨out, sp⟩ := st
      dsimp only at h1 h2
      have hnew : ∀ q : Int, upTo (out ++ [(needs[k].1, q)]) needs[i].1 = upTo out needs[i].1 := fun q => by
        rw [upTo_append]
        simp only [upTo]
        rw [if_neg (by omega)]; omega
      unfold lotStep
      split
      · split
        · dsimp only; rw [hnew]; exact ⟨h1, h2⟩
        · exact ⟨h1, h2⟩
      · split
        · rename_i hc
          dsimp only
          rw [upTo_bump _ hc.2.1]
          refine ⟨by split <;> omega, fun h => absurd hc.1 h⟩
        · dsimp only; rw [hnew needs[k].2]; exact ⟨h1, h2⟩
    · obtain rfl : i = k := by omega
      have : upTo (lotTo rule size needs (i + 1)).1 needs[i].1 = fSum (lotTo rule size needs (i + 1)).1 := by
        refine upTo_all _ _ (fun f hf => ?_)
        obtain ⟨j, hj, h1, h2⟩ := lot_days (rule := rule) (size := size) ha (i + 1) (by omega) f hf
        rcases Nat.lt_or_ge j i with h3 | h3
        · have := ha j i hi h3; omega
        · have : j = i := by omega
          subst this; omega
      rw [this]
      exact ⟨Int.le_refl _, fun _ => rfl⟩
theorem lots_spare (h1 : areFlows needs = true) (h2 : areFlows (lotTo rule size needs needs.length).1 = true) (i : Nat) (hi : i < needs.length) :
    spareOn needs (lotTo rule size needs needs.length).1 needs[i].1 = upTo (lotTo rule size needs needs.length).1 needs[i].1 - fSum (needs.take (i + 1)) := by
  unfold spareOn
  rw [h1, h2, flowUpTo_yes h1, flowUpTo_yes h2, fSum_upTo (areFlows_ascends h1) hi]
  rfl
/-- What the law says of each need's day. -/
theorem lots_each (h0 : lotRule rule size = true) (h1 : areFlows needs = true) (h2 : areFlows (lotTo rule size needs needs.length).1 = true) (i : Nat) (hi : i < needs.length) :
    0 ≤ spareOn needs (lotTo rule size needs needs.length).1 needs[i].1 ∧ (rule = 1 → spareOn needs (lotTo rule size needs needs.length).1 needs[i].1 < size) ∧ (rule = 2 → i + 1 = needs.length → spareOn needs (lotTo rule size needs needs.length).1 needs[i].1 = 0) := by
  have ha := areFlows_ascends h1
  have hq : ∀ f ∈ needs, 1 ≤ f.2 := fun f hf => (areFlows_mem h1 f hf).2.1
  obtain ⟨l1, l2⟩ := lot_later (rule := rule) (size := size) ha hq i hi needs.length (Nat.le_refl _) (by omega)
  rw [lots_spare h1 h2 i hi]
  have hr : (rule = 0 ∧ size = 0) ∨ (rule = 1 ∧ 1 ≤ size ∧ size ≤ 1000) ∨ (rule = 2 ∧ 1 ≤ size ∧ size ≤ 1000) := by
    simp only [lotRule, Bool.or_eq_true, Bool.and_eq_true, beq_iff_eq, inB_iff] at h0
    omega
  rcases hr with ⟨rfl, rfl⟩ | ⟨rfl, s1, _⟩ | ⟨rfl, s1, _⟩
  · have := lot0 (size := 0) (needs := needs) (i + 1) (by omega)
    rw [this] at l1 l2
    exact ⟨by omega, fun h => absurd h (by omega), fun h => absurd h (by omega)⟩
  · obtain ⟨k1, k2, k3, _⟩ := lot1 s1 hq (i + 1) (by omega)
    have := l2 (by omega)
    exact ⟨by omega, fun _ => by omega, fun h => absurd h (by omega)⟩
  · have k1 := (lot2 (size := size) (needs := needs) (i + 1) (by omega)).1
    refine ⟨by omega, fun h => absurd h (by omega), fun _ he => ?_⟩
    have : upTo (lotTo 2 size needs needs.length).1 needs[i].1 = fSum (lotTo 2 size needs needs.length).1 := by
      refine upTo_all _ _ (fun f hf => ?_)
      obtain ⟨j, hj, h1, h2⟩ := lot_days (rule := 2) (size := size) ha needs.length (Nat.le_refl _) f hf
      rcases Nat.lt_or_ge j i with h3 | h3
      · have := ha j i hi h3; omega
      · have : j = i := by omega
        subst this; omega
    rw [this, ← he, k1]; omega
theorem lots_isLotting (h0 : lotRule rule size = true) (h1 : areFlows needs = true) (h2 : areFlows (lotTo rule size needs needs.length).1 = true) : isLotting needs (lotTo rule size needs needs.length).1 rule size = true := by
  have hq : ∀ f ∈ needs, 1 ≤ f.2 := fun f hf => (areFlows_mem h1 f hf).2.1
  refine isLotting_yes h0 h1 h2 (fun k hk => (lots_each h0 h1 h2 k hk).1) (fun k hk => ?_)
  have hr : (rule = 0 ∧ size = 0) ∨ (rule = 1 ∧ 1 ≤ size ∧ size ≤ 1000) ∨ (rule = 2 ∧ 1 ≤ size ∧ size ≤ 1000) := by
    simp only [lotRule, Bool.or_eq_true, Bool.and_eq_true, beq_iff_eq, inB_iff] at h0
    omega
  rcases hr with ⟨rfl, rfl⟩ | ⟨rfl, s1, _⟩ | ⟨rfl, s1, _⟩
  · simp [lotBad]
  · obtain ⟨_, _, _, k4⟩ := lot1 s1 hq needs.length (Nat.le_refl _)
    obtain ⟨m, hm⟩ := k4 _ (List.getElem_mem hk)
    unfold lotBad
    rw [getD_at _ _ _ hk, hm, Int.mul_tmod_left]
    simp
  · have k2 := (lot2 (size := size) (needs := needs) needs.length (Nat.le_refl _)).2 k hk
    unfold lotBad
    rw [getD_at _ _ _ hk]
    by_cases h0 : 0 < k
    · have := k2 h0
      rw [getD_at _ _ _ (show k - 1 < (lotTo 2 size needs needs.length).1.length by omega)]
      have hz : decide ((lotTo 2 size needs needs.length).1[k].1 < (lotTo 2 size needs needs.length).1[k - 1].1 + size) = false := decide_eq_false (by omega)
      rw [hz]; simp
    · rw [decide_eq_false h0]; simp
end
end Go.Proofs.Ytdofhdelcendeaa
