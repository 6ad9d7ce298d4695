/- Part 5 of the texts of this claim: Lots for needs: what the reference's loop and the program's come to; The walks of SpareOn, LackOf, IsKept; The walks of IsLotting; What lots are: they come in time, as the rule says, and a fixed size leaves less than one lot over; The walk of the laws' own marks that are texts: some text comes back; CondNode: its cells, and the walks of the laws' own helpers on lists of it; Rows of the call's own and stores far from them; BillLine: rows in rows; the walks of the laws' own helpers on lists of it; Item: its cells, and the walks of the laws' own helpers on lists of it; Pick: its cells, and the walks of the laws' own helpers on lists of it; Need: its cells, and the walks of the laws' own helpers on lists of it; Receipt: its cells, and the walks of the laws' own helpers on lists of it. -/
import Derived.Test.YtpbibkjcjgggdaaIt4
import Derived.Test.YtpbibkjcjgggdaaIt3
import Derived.Test.YtpbibkjcjgggdaaIt2
import Derived.Test.YtpbibkjcjgggdaaIt1
import Derived.Laws.BytesArg
import Derived.StillTailTactics
/- Lots for needs: what the reference's loop and the program's come to. -/
namespace Go.Proofs.Ytpbibkjcjgggdaa

theorem ceil_eq (n d : Int) (hd : 1 ≤ d) : -((-n) / d) = (n + d - 1) / d := by
  have h1 := Int.mul_ediv_add_emod (-n) d
  have h2 := Int.emod_nonneg (-n) (show d ≠ 0 by omega)
  have h3 := Int.emod_lt_of_pos (-n) (show 0 < d by omega)
  symm
  rw [show n + d - 1 = (d - 1 - (-n) % d) + d * (-((-n) / d)) by rw [Int.mul_neg]; omega, Int.add_mul_ediv_left _ _ (by omega), Int.ediv_eq_zero_of_lt (by omega) (by omega)]
  omega
/-- The size of a lot of whole pieces of 'size' that covers n. -/
def lotUp (n size : Int) : Int := (n + size - 1) / size * size
theorem lotUp_bd (n size : Int) (h1 : 1 ≤ size) (h2 : size ≤ 1000) (h3 : 1 ≤ n) (h4 : n ≤ 1000000000) : n ≤ lotUp n size ∧ lotUp n size - n < size ∧ lotUp n size ≤ 1000001000 ∧ 0 ≤ (n + size - 1) / size ∧ (n + size - 1) / size ≤ 1000001000 := by
  have e1 := Int.mul_ediv_add_emod (n + size - 1) size
  have e2 := Int.emod_nonneg (n + size - 1) (show size ≠ 0 by omega)
  have e3 := Int.emod_lt_of_pos (n + size - 1) (show 0 < size by omega)
  have e4 : lotUp n size = size * ((n + size - 1) / size) := Int.mul_comm _ _
  have e5 : 0 ≤ (n + size - 1) / size := Int.ediv_nonneg (by omega) (by omega)
  have e6 : (n + size - 1) / size ≤ n + size - 1 := Int.ediv_le_self _ (by omega)
  omega
def lastDay (l : List Fl) : Int := (l.getD (l.length - 1) (0, 0)).1
/-- The last flow with so much more. -/
def bump (l : List Fl) (q : Int) : List Fl := l.set (l.length - 1) (lastDay l, (l.getD (l.length - 1) (0, 0)).2 + q)
theorem bump_len (l : List Fl) (q : Int) : (bump l q).length = l.length := by simp [bump]
theorem bump_last (l : List Fl) (q : Int) : lastDay (bump l q) = lastDay l := by
  unfold lastDay
  rw [bump_len]
  unfold bump
  rcases Nat.eq_zero_or_pos l.length with h | h
  · have : l = [] := List.eq_nil_of_length_eq_zero h
    subst this; rfl
  · rw [getD_at _ _ _ (by simp; omega), List.getElem_set, if_pos rfl]; rfl
theorem lastDay_snoc (l : List Fl) (f : Fl) : lastDay (l ++ [f]) = f.1 := by
  unfold lastDay
  rw [getD_at _ _ _ (by simp)]; simp
def lotStep (rule size : Int) (s : List Fl × Int) (f : Fl) : List Fl × Int :=
  if rule = 1 then
    if s.2 < f.2 then (s.1 ++ [(f.1, lotUp (f.2 - s.2) size)], lotUp (f.2 - s.2) size - (f.2 - s.2)) else (s.1, s.2 - f.2)
  else if rule = 2 ∧ 0 < s.1.length ∧ f.1 < lastDay s.1 + size then (bump s.1 f.2, s.2) else (s.1 ++ [f], s.2)
def lotTo (rule size : Int) (needs : List Fl) (k : Nat) : List Fl × Int := (needs.take k).foldl (lotStep rule size) ([], 0)
theorem lotTo_succ (rule size : Int) (needs : List Fl) (k : Nat) (h : k < needs.length) : lotTo rule size needs (k + 1) = lotStep rule size (lotTo rule size needs k) needs[k] := by
  unfold lotTo
  rw [List.take_succ_eq_append_getElem h, List.foldl_append]; rfl
/-- What holds of the lots at each place. -/
theorem lotTo_parts (rule size : Int) (needs : List Fl) (hf : areFlows needs = true) (hr : lotRule rule size = true) (k : Nat) (hk : k ≤ needs.length) :
    (lotTo rule size needs k).1.length ≤ k ∧ 0 ≤ (lotTo rule size needs k).2 ∧ (lotTo rule size needs k).2 ≤ 999 ∧ ∀ f ∈ (lotTo rule size needs k).1, 0 ≤ f.1 ∧ f.1 ≤ 999 ∧ 0 ≤ f.2 ∧ f.2 ≤ 1000001000 * k := by
  induction k with
  | zero => simp [lotTo]
  | succ k ih =>
    obtain ⟨h1, h2, h3, h4⟩ := ih (by omega)
    obtain ⟨⟨m1, m2⟩, m3, m4⟩ := areFlows_mem hf needs[k] (List.getElem_mem (by omega))
    rw [lotTo_succ rule size needs k (by omega)]
    have hmore : ∀ f ∈ (lotTo rule size needs k).1, 0 ≤ f.1 ∧ f.1 ≤ 999 ∧ 0 ≤ f.2 ∧ f.2 ≤ 1000001000 * ((k + 1 : Nat) : Int) := fun f hx => by have := h4 f hx; omega
    have hone : ∀ (l : List Fl) (x : Fl), (∀ f ∈ l, 0 ≤ f.1 ∧ f.1 ≤ 999 ∧ 0 ≤ f.2 ∧ f.2 ≤ 1000001000 * ((k + 1 : Nat) : Int)) → (0 ≤ x.1 ∧ x.1 ≤ 999 ∧ 0 ≤ x.2 ∧ x.2 ≤ 1000001000 * ((k + 1 : Nat) : Int)) →
        ∀ f ∈ l ++ [x], 0 ≤ f.1 ∧ f.1 ≤ 999 ∧ 0 ≤ f.2 ∧ f.2 ≤ 1000001000 * ((k + 1 : Nat) : Int) := fun l x ha hb f hx => by
      rcases List.mem_append.1 hx with h | h
      · exact ha f h
      · have : f = x := by simpa using h
        rw [this]; exact hb
    unfold lotStep
    split
    · rename_i hr1
      have hs : 1 ≤ size ∧ size ≤ 1000 := by
        subst hr1
        simp [lotRule, inB] at hr
        exact hr
      split
      · obtain ⟨b1, b2, b3, b4, b5⟩ := lotUp_bd (needs[k].2 - (lotTo rule size needs k).2) size hs.1 hs.2 (by omega) (by omega)
        refine ⟨by simp; omega, by simp only; omega, by simp only; omega, hone _ _ hmore ⟨m1, m2, by simp only; omega, by simp only; omega⟩⟩
      · exact ⟨by simp only; omega, by simp only; omega, by simp only; omega, hmore⟩
    · split
      · rename_i hc
        obtain ⟨_, c1, _⟩ := hc
        have hlast : (lotTo rule size needs k).1.length - 1 < (lotTo rule size needs k).1.length := by omega
        obtain ⟨l1, l2, l3, l4⟩ := h4 _ (List.getElem_mem hlast)
        refine ⟨by simp only [bump_len]; omega, h2, h3, fun f hx => ?_⟩
        simp only [bump] at hx
        rcases List.mem_or_eq_of_mem_set hx with h | h
        · exact hmore f h
        · rw [h]
          unfold lastDay
          rw [getD_at _ _ _ hlast]
          exact ⟨l1, l2, by simp only; omega, by simp only; omega⟩
      · exact ⟨by simp; omega, h2, h3, hone _ _ hmore ⟨m1, m2, by omega, by omega⟩⟩
def lotsFor (needs : List Fl) (rule size : Int) : List Fl × Bool :=
  if (lotRule rule size && areFlows needs) && areFlows (lotTo rule size needs needs.length).1 then ((lotTo rule size needs needs.length).1, true) else ([], false)
theorem lotsFor_no {needs : List Fl} {rule size : Int} (h : ((lotRule rule size && areFlows needs) && areFlows (lotTo rule size needs needs.length).1) = false) : lotsFor needs rule size = ([], false) := by unfold lotsFor; rw [h]; rfl
theorem lotsFor_yes {needs : List Fl} {rule size : Int} (h : ((lotRule rule size && areFlows needs) && areFlows (lotTo rule size needs needs.length).1) = true) : lotsFor needs rule size = ((lotTo rule size needs needs.length).1, true) := by unfold lotsFor; rw [h]; rfl
theorem lotsFor_flows (needs : List Fl) (rule size : Int) : areFlows (lotsFor needs rule size).1 = true := by
  unfold lotsFor
  split
  · rename_i h
    simp only [Bool.and_eq_true] at h
    exact h.2
  · rfl
theorem lotsFor_len (needs : List Fl) (rule size : Int) : (lotsFor needs rule size).1.length ≤ 16777216 := by
  have := (areFlows_parts (lotsFor_flows needs rule size)).2
  omega
end Go.Proofs.Ytpbibkjcjgggdaa
/- The walks of SpareOn, LackOf, IsKept. -/
namespace Go.Proofs.Ytpbibkjcjgggdaa
open Go.RowKit
theorem spareOn_no {needs lots : List Fl} (h : (areFlows needs && areFlows lots) = false) (d : Int) : spareOn needs lots d = 0 := by simp [spareOn, h]
theorem spareOn_yes {needs lots : List Fl} (h1 : areFlows needs = true) (h2 : areFlows lots = true) (d : Int) : spareOn needs lots d = flowUpTo lots d - flowUpTo needs d := by simp [spareOn, h1, h2]

end Go.Proofs.Ytpbibkjcjgggdaa
/- The walks of IsLotting. -/
namespace Go.Proofs.Ytpbibkjcjgggdaa
open Go.RowKit
def lotBad (rule size : Int) (l : List Fl) (k : Nat) : Bool :=
  ((rule == 1) && ((l.getD k (0, 0)).2.tmod size != 0)) || ((rule == 2) && (decide (0 < k) && decide ((l.getD k (0, 0)).1 < (l.getD (k - 1) (0, 0)).1 + size)))
def isLotting (needs lots : List Fl) (rule size : Int) : Bool :=
  (lotRule rule size && (areFlows needs && areFlows lots)) && (((List.range needs.length).all fun k => decide (0 ≤ spareOn needs lots (needs.getD k (0, 0)).1)) && ((List.range lots.length).all fun k => !lotBad rule size lots k))
theorem lotRule_size {r s : Int} (h : lotRule r s = true) (h2 : ((r == 1) || (r == 2)) = true) : 1 ≤ s ∧ s ≤ 1000 := by
  unfold lotRule at h
  simp only [Bool.or_eq_true, Bool.and_eq_true, beq_iff_eq, inB_iff] at h h2
  omega
theorem isLotting_no {needs lots : List Fl} {rule size : Int} (h : (lotRule rule size && (areFlows needs && areFlows lots)) = false) : isLotting needs lots rule size = false := by unfold isLotting; rw [h]; rfl
theorem isLotting_spare {needs lots : List Fl} {rule size : Int} {k : Nat} (hk : k < needs.length) (h : spareOn needs lots needs[k].1 < 0) : isLotting needs lots rule size = false := by
  unfold isLotting
  have : ((List.range needs.length).all fun k => decide (0 ≤ spareOn needs lots (needs.getD k (0, 0)).1)) = false := by
    rw [List.all_eq_false]
    exact ⟨k, by simpa using hk, by rw [getD_at _ _ _ hk]; simp; omega⟩
  rw [this, Bool.false_and, Bool.and_false]
theorem isLotting_bad {needs lots : List Fl} {rule size : Int} {k : Nat} (hk : k < lots.length) (h : lotBad rule size lots k = true) : isLotting needs lots rule size = false := by
  unfold isLotting
  have : ((List.range lots.length).all fun k => !lotBad rule size lots k) = false := by
    rw [List.all_eq_false]
    exact ⟨k, by simpa using hk, by simp [h]⟩
  rw [this, Bool.and_false, Bool.and_false]
theorem isLotting_yes {needs lots : List Fl} {rule size : Int} (h1 : lotRule rule size = true) (h2 : areFlows needs = true) (h3 : areFlows lots = true) (h4 : ∀ k (hk : k < needs.length), 0 ≤ spareOn needs lots needs[k].1)
    (h5 : ∀ k < lots.length, lotBad rule size lots k = false) : isLotting needs lots rule size = true := by
  unfold isLotting
  have e1 : ((List.range needs.length).all fun k => decide (0 ≤ spareOn needs lots (needs.getD k (0, 0)).1)) = true := by
    rw [List.all_eq_true]
    intro k hk
    rw [List.mem_range] at hk
    rw [getD_at _ _ _ hk]
    exact decide_eq_true (h4 k hk)
  have e2 : ((List.range lots.length).all fun k => !lotBad rule size lots k) = true := by
    rw [List.all_eq_true]
    intro k hk
    rw [List.mem_range] at hk
    rw [h5 k hk]; rfl
  rw [h1, h2, h3, e1, e2]; rfl
end Go.Proofs.Ytpbibkjcjgggdaa
/- What lots are: they come in time, as the rule says, and a fixed size leaves less than one lot over. -/
namespace Go.Proofs.Ytpbibkjcjgggdaa

theorem bump_split (l : List Fl) (h : 0 < l.length) (q : Int) : l = l.take (l.length - 1) ++ [(lastDay l, (l.getD (l.length - 1) (0, 0)).2)] ∧ bump l q = l.take (l.length - 1) ++ [(lastDay l, (l.getD (l.length - 1) (0, 0)).2 + q)] := by
  have hk : l.length - 1 < l.length := by omega
  refine ⟨?_, ?_⟩
  · unfold lastDay
    rw [getD_at _ _ _ hk]
    have h1 : l.take (l.length - 1 + 1) = l := by rw [show l.length - 1 + 1 = l.length by omega, List.take_length]
    rw [List.take_succ_eq_append_getElem hk] at h1
    exact h1.symm
  · unfold bump
    rw [List.set_eq_take_append_cons_drop, if_pos hk, show l.length - 1 + 1 = l.length by omega, List.drop_length]
theorem upTo_bump (l : List Fl) (h : 0 < l.length) (q e : Int) : upTo (bump l q) e = upTo l e + if lastDay l ≤ e then q else 0 := by
  obtain ⟨h1, h2⟩ := bump_split l h q
  have h3 : upTo l e = upTo (l.take (l.length - 1)) e + upTo [(lastDay l, (l.getD (l.length - 1) (0, 0)).2)] e := by rw [← upTo_append, ← h1]
  rw [h2, upTo_append, h3]
  simp only [upTo]
  split <;> omega
theorem fSum_bump (l : List Fl) (h : 0 < l.length) (q : Int) : fSum (bump l q) = fSum l + q := by
  obtain ⟨h1, h2⟩ := bump_split l h q
  have h3 : fSum l = fSum (l.take (l.length - 1)) + fSum [(lastDay l, (l.getD (l.length - 1) (0, 0)).2)] := by rw [← fSum_append, ← h1]
  rw [h2, fSum_append, h3]
  simp only [fSum]
  omega
theorem bump_day (l : List Fl) (q : Int) (j : Nat) (hj : j < (bump l q).length) : ((bump l q)[j]).1 = (l[j]'(by rw [bump_len] at hj; exact hj)).1 := by
  have hj2 : j < l.length := by rw [bump_len] at hj; exact hj
  have : (bump l q)[j] = (l.set (l.length - 1) (lastDay l, (l.getD (l.length - 1) (0, 0)).2 + q))[j]'(by simpa [bump] using hj) := rfl
  rw [this, List.getElem_set]
  split
  · rename_i he
    subst he
    unfold lastDay
    rw [getD_at _ _ _ hj2]
  · rfl
/-- Each lot lies at least 'size' days behind the one before. -/
def Spaced (size : Int) (l : List Fl) : Prop := ∀ j (hj : j < l.length), 0 < j → (l[j - 1]'(by omega)).1 + size ≤ l[j].1
section
variable {rule size : Int} {needs : List Fl}
theorem lot0 (k : Nat) (hk : k ≤ needs.length) : (lotTo 0 size needs k).1 = needs.take k := by
  induction k with
  | zero => simp [lotTo]
  | succ k ih =>
    rw [lotTo_succ 0 size needs k (by omega)]
    unfold lotStep
    rw [if_neg (by omega), if_neg (by omega)]
    simp only
    rw [ih (by omega), List.take_succ_eq_append_getElem (by omega)]
theorem lot1 (hs : 1 ≤ size) (hn : ∀ f ∈ needs, 1 ≤ f.2) (k : Nat) (hk : k ≤ needs.length) :
    fSum (lotTo 1 size needs k).1 = fSum (needs.take k) + (lotTo 1 size needs k).2 ∧ 0 ≤ (lotTo 1 size needs k).2 ∧ (lotTo 1 size needs k).2 < size ∧ ∀ f ∈ (lotTo 1 size needs k).1, ∃ m : Int, f.2 = m * size := by
  induction k with
  | zero => simp [lotTo, fSum]; omega
  | succ k ih =>
    obtain ⟨h1, h2, h3, h4⟩ := ih (by omega)
    have hq := hn _ (List.getElem_mem (show k < needs.length by omega))
    rw [lotTo_succ 1 size needs k (by omega), fSum_take needs k (by omega)]
    generalize lotTo 1 size needs k = st at *
    obtain ⟨out, sp⟩ := st
    dsimp only at h1 h2 h3 h4
    unfold lotStep
    rw [if_pos rfl]
    split
    · rename_i hc
      dsimp only at hc ⊢
      have e1 := Int.mul_ediv_add_emod (needs[k].2 - sp + size - 1) size
      have e2 := Int.emod_nonneg (needs[k].2 - sp + size - 1) (show size ≠ 0 by omega)
      have e3 := Int.emod_lt_of_pos (needs[k].2 - sp + size - 1) (show 0 < size by omega)
      have e4 : lotUp (needs[k].2 - sp) size = size * ((needs[k].2 - sp + size - 1) / size) := Int.mul_comm _ _
      refine ⟨?_, by omega, by omega, fun f hf => ?_⟩
      · rw [fSum_append]; simp only [fSum]; omega
      · rcases List.mem_append.1 hf with h | h
        · exact h4 f h
        · have : f = (needs[k].1, lotUp (needs[k].2 - sp) size) := by simpa using h
          rw [this]; exact ⟨_, rfl⟩
    · rename_i hc
      dsimp only at hc ⊢
      exact ⟨by omega, by omega, by omega, h4⟩
theorem lot2 (k : Nat) (hk : k ≤ needs.length) : fSum (lotTo 2 size needs k).1 = fSum (needs.take k) ∧ Spaced size (lotTo 2 size needs k).1 := by
  induction k with
  | zero => exact ⟨by simp [lotTo, fSum], fun j hj => by simp [lotTo] at hj⟩
  | succ k ih =>
    obtain ⟨h1, h2⟩ := ih (by omega)
    rw [fSum_take needs k (by omega), lotTo_succ 2 size needs k (by omega)]
    generalize lotTo 2 size needs k = st at *
    obtain ⟨out, sp⟩ := st
    dsimp only at h1 h2
    unfold lotStep
    rw [if_neg (by omega)]
    by_cases hc : (2 : Int) = 2 ∧ 0 < out.length ∧ needs[k].1 < lastDay out + size
    · rw [if_pos hc]
      refine ⟨by rw [fSum_bump _ hc.2.1]; omega, fun j hj h0 => ?_⟩
      dsimp only at hj ⊢
      have e1 := bump_day out needs[k].2 j hj
      have e2 := bump_day out needs[k].2 (j - 1) (by omega)
      rw [e1, e2]
      exact h2 j (by simpa [bump_len] using hj) h0
    · rw [if_neg hc]
      refine ⟨by rw [fSum_append]; simp only [fSum]; omega, fun j hj h0 => ?_⟩
      simp only [List.length_append, List.length_cons, List.length_nil] at hj
      simp only [List.getElem_append]
      by_cases hl : j < out.length
      · rw [dif_pos (by omega), dif_pos hl]
        exact h2 j hl h0
      · obtain rfl : j = out.length := by omega
        rw [dif_pos (by omega), dif_neg hl]
        simp only [Nat.sub_self, List.getElem_cons_zero]
        have : ¬ needs[k].1 < lastDay out + size := fun h => hc ⟨rfl, h0, h⟩
        unfold lastDay at this
        rw [getD_at _ _ _ (show out.length - 1 < out.length by omega)] at this
        omega
/-- The lots of the first needs lie no later than these. -/
theorem lot_days (k : Nat) (hk : k ≤ needs.length) : ∀ f ∈ (lotTo rule size needs k).1, ∃ (j : Nat) (hj : j < needs.length), j < k ∧ f.1 = needs[j].1 := by
  induction k with
  | zero => intro f hf; simp [lotTo] at hf
  | succ k ih =>
    have ih2 := ih (by omega)
    have hmore : ∀ f ∈ (lotTo rule size needs k).1, ∃ (j : Nat) (hj : j < needs.length), j < k + 1 ∧ f.1 = needs[j].1 := fun f hf => by
      obtain ⟨j, hj, h1, h2⟩ := ih2 f hf
      exact ⟨j, hj, by omega, h2⟩
    rw [lotTo_succ rule size needs k (by omega)]
    generalize lotTo rule size needs k = st at *
    obtain ⟨out, sp⟩ := st
    dsimp only at hmore
    have hnew : ∀ q : Int, ∀ f ∈ out ++ [(needs[k].1, q)], ∃ (j : Nat) (hj : j < needs.length), j < k + 1 ∧ f.1 = needs[j].1 := fun q f hf => by
      rcases List.mem_append.1 hf with h | h
      · exact hmore f h
      · have : f = (needs[k].1, q) := by simpa using h
        rw [this]; exact ⟨k, by omega, by omega, rfl⟩
    unfold lotStep
    split
    · split
      · exact hnew _
      · exact hmore
    · split
      · rename_i hc
        intro f hf
        simp only [bump] at hf
        rcases List.mem_or_eq_of_mem_set hf with h | h
        · exact hmore f h
        · have hk2 : out.length - 1 < out.length := by have := hc.2.1; simp only at this; omega
          rw [h]
          unfold lastDay
          simp only
          rw [getD_at _ _ _ hk2]
          exact hmore _ (List.getElem_mem hk2)
      · exact hnew needs[k].2
/-- What later needs do to the lots up to an earlier day. -/
theorem lot_later (ha : ascends needs) (hq : ∀ f ∈ needs, 1 ≤ f.2) (i : Nat) (hi : i < needs.length) (k : Nat) (hk : k ≤ needs.length) (hik : i + 1 ≤ k) :
    fSum (lotTo rule size needs (i + 1)).1 ≤ upTo (lotTo rule size needs k).1 needs[i].1 ∧ (rule ≠ 2 → upTo (lotTo rule size needs k).1 needs[i].1 = fSum (lotTo rule size needs (i + 1)).1) := by
  induction k with
  | zero => omega
  | succ k ih =>
    rcases Nat.lt_or_ge i k with hlt | hge
    · obtain ⟨h1, h2⟩ := ih (by omega) (by omega)
      have hd := ha i k (by omega) hlt
      have hp := hq _ (List.getElem_mem (show k < needs.length by omega))
      rw [lotTo_succ rule size needs k (by omega)]
      generalize lotTo rule size needs k = st at *
      obtain ⟨out, sp⟩ := st
      dsimp only at h1 h2
      have hnew : ∀ q : Int, upTo (out ++ [(needs[k].1, q)]) needs[i].1 = upTo out needs[i].1 := fun q => by
        rw [upTo_append]
        simp only [upTo]
        rw [if_neg (by omega)]; omega
      unfold lotStep
      split
      · split
        · dsimp only; rw [hnew]; exact ⟨h1, h2⟩
        · exact ⟨h1, h2⟩
      · split
        · rename_i hc
          dsimp only
          rw [upTo_bump _ hc.2.1]
          refine ⟨by split <;> omega, fun h => absurd hc.1 h⟩
        · dsimp only; rw [hnew needs[k].2]; exact ⟨h1, h2⟩
    · obtain rfl : i = k := by omega
      have : upTo (lotTo rule size needs (i + 1)).1 needs[i].1 = fSum (lotTo rule size needs (i + 1)).1 := by
        refine upTo_all _ _ (fun f hf => ?_)
        obtain ⟨j, hj, h1, h2⟩ := lot_days (rule := rule) (size := size) (i + 1) (by omega) f hf
        rcases Nat.lt_or_ge j i with h3 | h3
        · have := ha j i hi h3; omega
        · have : j = i := by omega
          subst this; omega
      rw [this]
      exact ⟨Int.le_refl _, fun _ => rfl⟩
theorem lots_spare (h1 : areFlows needs = true) (h2 : areFlows (lotTo rule size needs needs.length).1 = true) (i : Nat) (hi : i < needs.length) :
    spareOn needs (lotTo rule size needs needs.length).1 needs[i].1 = upTo (lotTo rule size needs needs.length).1 needs[i].1 - fSum (needs.take (i + 1)) := by
  unfold spareOn
  rw [h1, h2, flowUpTo_yes h1, flowUpTo_yes h2, fSum_upTo (areFlows_ascends h1) hi]
  rfl
/-- What the law says of each need's day. -/
theorem lots_each (h0 : lotRule rule size = true) (h1 : areFlows needs = true) (h2 : areFlows (lotTo rule size needs needs.length).1 = true) (i : Nat) (hi : i < needs.length) :
    0 ≤ spareOn needs (lotTo rule size needs needs.length).1 needs[i].1 ∧ (rule = 1 → spareOn needs (lotTo rule size needs needs.length).1 needs[i].1 < size) ∧ (rule = 2 → i + 1 = needs.length → spareOn needs (lotTo rule size needs needs.length).1 needs[i].1 = 0) := by
  have ha := areFlows_ascends h1
  have hq : ∀ f ∈ needs, 1 ≤ f.2 := fun f hf => (areFlows_mem h1 f hf).2.1
  obtain ⟨l1, l2⟩ := lot_later (rule := rule) (size := size) ha hq i hi needs.length (Nat.le_refl _) (by omega)
  rw [lots_spare h1 h2 i hi]
  have hr : (rule = 0 ∧ size = 0) ∨ (rule = 1 ∧ 1 ≤ size ∧ size ≤ 1000) ∨ (rule = 2 ∧ 1 ≤ size ∧ size ≤ 1000) := by
    simp only [lotRule, Bool.or_eq_true, Bool.and_eq_true, beq_iff_eq, inB_iff] at h0
    omega
  rcases hr with ⟨rfl, rfl⟩ | ⟨rfl, s1, _⟩ | ⟨rfl, s1, _⟩
  · have := lot0 (size := 0) (needs := needs) (i + 1) (by omega)
    rw [this] at l1 l2
    exact ⟨by omega, fun h => absurd h (by omega), fun h => absurd h (by omega)⟩
  · obtain ⟨k1, k2, k3, _⟩ := lot1 s1 hq (i + 1) (by omega)
    have := l2 (by omega)
    exact ⟨by omega, fun _ => by omega, fun h => absurd h (by omega)⟩
  · have k1 := (lot2 (size := size) (needs := needs) (i + 1) (by omega)).1
    refine ⟨by omega, fun h => absurd h (by omega), fun _ he => ?_⟩
    have : upTo (lotTo 2 size needs needs.length).1 needs[i].1 = fSum (lotTo 2 size needs needs.length).1 := by
      refine upTo_all _ _ (fun f hf => ?_)
      obtain ⟨j, hj, h1, h2⟩ := lot_days (rule := 2) (size := size) needs.length (Nat.le_refl _) f hf
      rcases Nat.lt_or_ge j i with h3 | h3
      · have := ha j i hi h3; omega
      · have : j = i := by omega
        subst this; omega
    rw [this, ← he, k1]; omega
theorem lots_isLotting (h0 : lotRule rule size = true) (h1 : areFlows needs = true) (h2 : areFlows (lotTo rule size needs needs.length).1 = true) : isLotting needs (lotTo rule size needs needs.length).1 rule size = true := by
  have hq : ∀ f ∈ needs, 1 ≤ f.2 := fun f hf => (areFlows_mem h1 f hf).2.1
  refine isLotting_yes h0 h1 h2 (fun k hk => (lots_each h0 h1 h2 k hk).1) (fun k hk => ?_)
  have hr : (rule = 0 ∧ size = 0) ∨ (rule = 1 ∧ 1 ≤ size ∧ size ≤ 1000) ∨ (rule = 2 ∧ 1 ≤ size ∧ size ≤ 1000) := by
    simp only [lotRule, Bool.or_eq_true, Bool.and_eq_true, beq_iff_eq, inB_iff] at h0
    omega
  rcases hr with ⟨rfl, rfl⟩ | ⟨rfl, s1, _⟩ | ⟨rfl, s1, _⟩
  · simp [lotBad]
  · obtain ⟨_, _, _, k4⟩ := lot1 s1 hq needs.length (Nat.le_refl _)
    obtain ⟨m, hm⟩ := k4 _ (List.getElem_mem hk)
    unfold lotBad
    rw [getD_at _ _ _ hk, hm, Int.mul_tmod_left]
    simp
  · have k2 := (lot2 (size := size) (needs := needs) needs.length (Nat.le_refl _)).2 k hk
    unfold lotBad
    rw [getD_at _ _ _ hk]
    by_cases h0 : 0 < k
    · have := k2 h0
      rw [getD_at _ _ _ (show k - 1 < (lotTo 2 size needs needs.length).1.length by omega)]
      have hz : decide ((lotTo 2 size needs needs.length).1[k].1 < (lotTo 2 size needs needs.length).1[k - 1].1 + size) = false := decide_eq_false (by omega)
      rw [hz]; simp
    · rw [decide_eq_false h0]; simp
end
end Go.Proofs.Ytpbibkjcjgggdaa
/- The walk of the laws' own marks that are texts: some text comes back. -/
namespace Go.Proofs.Ytpbibkjcjgggdaa
open Go.RowKit
end Go.Proofs.Ytpbibkjcjgggdaa
/- CondNode: its cells, and the walks of the laws' own helpers on lists of it. -/
namespace Go.Proofs.Ytpbibkjcjgggdaa
open Go.RowKit

abbrev Cn := Int × ByteArray × ByteArray
def cnF : Flat Cn := ⟨fun f => [.int .i64 (f.1), .string (f.2.1), .string (f.2.2)], 3, fun _ => rfl⟩
abbrev CondsIn (w : World) (A : Option Addr) (n : Nat) (l : List Cn) : Prop := RowsIn cnF w A n l
theorem cond_at {w : World} {A : Option Addr} {n : Nat} {l : List Cn} (h : CondsIn w A n l) {k : Nat} (hk : k < l.length) :
    ∃ b o, A = some ⟨b, o, none⟩ ∧ b < w.heap.size ∧ w.cell? ⟨b, o + k * 3, none⟩ = some (.int .i64 (l[k].1)) ∧ w.cell? ⟨b, o + k * 3 + 1, none⟩ = some (.string (l[k].2.1)) ∧ w.cell? ⟨b, o + k * 3 + 2, none⟩ = some (.string (l[k].2.2)) := by
  obtain ⟨b, o, e, hlt, hc⟩ := h.at_ hk
  exact ⟨b, o, e, hlt, hc 0 _ rfl, hc 1 _ rfl, hc 2 _ rfl⟩
theorem condInfo : (Try.prog.info? 105).map (fun i => (i.zero, i.size, i.bytes)) = some (some (.agg #[.int .i64 0, .string ByteArray.empty, .string ByteArray.empty]), 3, 40) := by kernel_rfl
theorem condElem : ElemOk cnF 100 105 := by
  obtain ⟨i, h1, h2, h3, h4⟩ := info_parts condInfo
  exact ⟨i, _, 40, Try.underlying100, h1, h2, h3, h4, rfl, by decide, by omega⟩
def okCn (x : Cn) : Prop := x.2.1.size ≤ 9223372036854775807 ∧ x.2.2.size ≤ 9223372036854775807
end Go.Proofs.Ytpbibkjcjgggdaa
/- Rows of the call's own and stores far from them. -/
namespace Go.Proofs.Ytpbibkjcjgggdaa
open Go.RowKit
theorem own_far {w : World} {lo : Nat} {e : TypeId} {sz n : Nat} {v : Value} {xs : List Value} (h : w.ownsRow lo e sz v n xs) {p : Addr} (hp : p.block < lo) (x : Value) : (w.setCell p x).ownsRow lo e sz v n xs := by
  refine World.ownsRow.kept h (row := some p.block) ⟨rfl, rfl, rfl, by simp, fun k _ hk => heap_setCell_other w p k x (fun e => hk (by simp [e]))⟩ (.inr ?_)
  intro he
  have := own_block h _ he
  omega
theorem OwnInts.far {w : World} {lo : Nat} {A : Option Addr} {n c : Nat} {l : List Int} (h : OwnInts w lo A n c l) {p : Addr} (hp : p.block < lo) (x : Value) : OwnInts (w.setCell p x) lo A n c l := ⟨h.1, own_far h.2 hp x⟩
theorem OwnRows.far {α : Type} {F : Flat α} {e : TypeId} {w : World} {lo : Nat} {A : Option Addr} {n c : Nat} {l : List α} (h : OwnRows F e w lo A n c l) {p : Addr} (hp : p.block < lo) (x : Value) : OwnRows F e (w.setCell p x) lo A n c l := ⟨h.1, own_far h.2 hp x⟩
theorem set_mid2 {α : Type} (a : List α) (x y : α) (b : List α) (i : Nat) (hi : i = a.length) : (a ++ x :: b).set i y = a ++ y :: b := by
  subst hi
  rw [List.set_append_right _ _ (Nat.le_refl _), Nat.sub_self, List.set_cons_zero]
end Go.Proofs.Ytpbibkjcjgggdaa
/- BillLine: rows in rows; the walks of the laws' own helpers on lists of it. -/
namespace Go.Proofs.Ytpbibkjcjgggdaa
open Go.RowKit
abbrev Bl := ByteArray × ByteArray × Int × Int × Int × List Cn
abbrev BlR := ByteArray × ByteArray × Int × Int × Int × (Option Addr × Nat × Nat)
def blF : Flat BlR := ⟨fun f => [.string (f.1), .string (f.2.1), .int .i64 (f.2.2.1), .int .i64 (f.2.2.2.1), .int .i64 (f.2.2.2.2.1), .slice f.2.2.2.2.2.1 f.2.2.2.2.2.2.1 f.2.2.2.2.2.2.2], 6, fun _ => rfl⟩
/-- A raw element and what it stands for. -/
def BlOf (P : Option Addr → Nat → List Cn → Prop) (r : BlR) (j : Bl) : Prop := r.1 = j.1 ∧ r.2.1 = j.2.1 ∧ r.2.2.1 = j.2.2.1 ∧ r.2.2.2.1 = j.2.2.2.1 ∧ r.2.2.2.2.1 = j.2.2.2.2.1 ∧ P r.2.2.2.2.2.1 r.2.2.2.2.2.2.1 j.2.2.2.2.2
theorem BlOf.imp {P Q : Option Addr → Nat → List Cn → Prop} {r : BlR} {j : Bl} (h : BlOf P r j) (hi : ∀ A n l, P A n l → Q A n l) : BlOf Q r j := by
  simp only [BlOf] at h ⊢
  exact ⟨h.1, h.2.1, h.2.2.1, h.2.2.2.1, h.2.2.2.2.1, hi _ _ _ h.2.2.2.2.2⟩
def BillLineOfs (P : Option Addr → Nat → List Cn → Prop) (R : List BlR) (l : List Bl) : Prop := R.length = l.length ∧ ∀ k (h1 : k < R.length) (h2 : k < l.length), BlOf P R[k] l[k]
theorem BillLineOfs.imp {P Q : Option Addr → Nat → List Cn → Prop} {R : List BlR} {l : List Bl} (h : BillLineOfs P R l) (hi : ∀ A n l, P A n l → Q A n l) : BillLineOfs Q R l := ⟨h.1, fun k h1 h2 => (h.2 k h1 h2).imp hi⟩
theorem BillLineOfs.snoc {P : Option Addr → Nat → List Cn → Prop} {R : List BlR} {l : List Bl} {r : BlR} {j : Bl} (h : BillLineOfs P R l) (hj : BlOf P r j) : BillLineOfs P (R ++ [r]) (l ++ [j]) := by
  refine ⟨by simp [h.1], fun k h1 h2 => ?_⟩
  simp only [List.length_append, List.length_cons, List.length_nil] at h1
  have hl := h.1
  simp only [List.getElem_append]
  by_cases hk : k < R.length
  · rw [dif_pos hk, dif_pos (by omega)]; exact h.2 k hk (by omega)
  · rw [dif_neg hk, dif_neg (by omega)]
    simp only [List.getElem_singleton]; exact hj
def BillLinesIn (w : World) (A : Option Addr) (n : Nat) (l : List Bl) : Prop := ∃ R, RowsIn blF w A n R ∧ BillLineOfs (CondsIn w) R l
/-- As it came in: a row within is read only where it is not too long. -/
def BillLinePre (w : World) (A : Option Addr) (n : Nat) (l : List Bl) : Prop := ∃ R, RowsIn blF w A n R ∧ BillLineOfs (fun A n l => n ≤ 9223372036854775807 ∧ (n ≤ 1048576 → CondsIn w A n l)) R l
/-- Of the call's own, all rows in blocks from lo on. -/
def BillLineFrom (w : World) (lo : Nat) (A : Option Addr) (n c : Nat) (l : List Bl) : Prop := ∃ R, OwnRows blF 103 w lo A n c R ∧ BillLineOfs (fun A n l => OwnRows cnF 105 w lo A n n l ∧ l.length ≤ 16777216) R l
section
variable {w w' : World} {A : Option Addr} {n c lo : Nat} {l : List Bl}
theorem BillLinesIn.keep (h : BillLinesIn w A n l) (hb : Below w.heap.size w w') : BillLinesIn w' A n l := by
  obtain ⟨R, h1, h2⟩ := h
  exact ⟨R, h1.keep hb, h2.imp (fun _ _ _ h => h.keep hb)⟩
theorem BillLinesIn.len (h : BillLinesIn w A n l) : l.length ≤ 16777216 := by obtain ⟨R, h1, h2⟩ := h; rw [← h2.1]; exact h1.len
theorem BillLinesIn.num (h : BillLinesIn w A n l) : n = l.length := by obtain ⟨R, h1, h2⟩ := h; rw [← h2.1]; exact h1.1
theorem BillLinePre.keep (h : BillLinePre w A n l) (hb : Below w.heap.size w w') : BillLinePre w' A n l := by
  obtain ⟨R, h1, h2⟩ := h
  exact ⟨R, h1.keep hb, h2.imp (fun _ _ _ h => ⟨h.1, fun hn => (h.2 hn).keep hb⟩)⟩
theorem BillLinePre.len (h : BillLinePre w A n l) : l.length ≤ 16777216 := by obtain ⟨R, h1, h2⟩ := h; rw [← h2.1]; exact h1.len
theorem BillLineFrom.keep (h : BillLineFrom w lo A n c l) (hb : Below w.heap.size w w') : BillLineFrom w' lo A n c l := by
  obtain ⟨R, h1, h2⟩ := h
  exact ⟨R, h1.keep hb, h2.imp (fun _ _ _ h => ⟨h.1.keep hb, h.2⟩)⟩
theorem BillLineFrom.far (h : BillLineFrom w lo A n c l) {p : Addr} (hp : p.block < lo) (x : Value) : BillLineFrom (w.setCell p x) lo A n c l := by
  obtain ⟨R, h1, h2⟩ := h
  exact ⟨R, h1.far hp x, h2.imp (fun _ _ _ h => ⟨h.1.far hp x, h.2⟩)⟩
theorem BillLineFrom.lower {lo' : Nat} (h : BillLineFrom w lo A n c l) (hl : lo' ≤ lo) : BillLineFrom w lo' A n c l := by
  obtain ⟨R, h1, h2⟩ := h
  exact ⟨R, h1.lower hl, h2.imp (fun _ _ _ h => ⟨h.1.lower hl, h.2⟩)⟩
theorem BillLineFrom.rows (h : BillLineFrom w lo A n c l) (hn : l.length ≤ 16777216) : BillLinesIn w A n l := by
  obtain ⟨R, h1, h2⟩ := h
  exact ⟨R, h1.rows (by rw [h2.1]; exact hn), h2.imp (fun _ _ _ h => h.1.rows h.2)⟩
theorem BillLineFrom.at_ (h : BillLineFrom w lo A n c l) : BillLineFrom w lo A n c l := h
theorem bl_at (h : BillLinesIn w A n l) {k : Nat} (hk : k < l.length) :
    ∃ b o B m c, A = some ⟨b, o, none⟩ ∧ b < w.heap.size ∧ w.cell? ⟨b, o + k * 6, none⟩ = some (.string (l[k].1)) ∧ w.cell? ⟨b, o + k * 6 + 1, none⟩ = some (.string (l[k].2.1)) ∧ w.cell? ⟨b, o + k * 6 + 2, none⟩ = some (.int .i64 (l[k].2.2.1)) ∧ w.cell? ⟨b, o + k * 6 + 3, none⟩ = some (.int .i64 (l[k].2.2.2.1)) ∧ w.cell? ⟨b, o + k * 6 + 4, none⟩ = some (.int .i64 (l[k].2.2.2.2.1)) ∧ w.cell? ⟨b, o + k * 6 + 5, none⟩ = some (.slice B m c) ∧ CondsIn w B m l[k].2.2.2.2.2 := by
  obtain ⟨R, h1, h2, h3⟩ := h
  obtain ⟨b, o, e, hlt, hc⟩ := h1.at_ (k := k) (by omega)
  have h4 := h3 k (by omega) hk
  simp only [BlOf] at h4
  refine ⟨b, o, _, _, _, e, hlt, by rw [← h4.1]; exact hc 0 _ rfl, by rw [← h4.2.1]; exact hc 1 _ rfl, by rw [← h4.2.2.1]; exact hc 2 _ rfl, by rw [← h4.2.2.2.1]; exact hc 3 _ rfl, by rw [← h4.2.2.2.2.1]; exact hc 4 _ rfl, hc 5 _ rfl, h4.2.2.2.2.2⟩
end
theorem blInfo : (Try.prog.info? 103).map (fun i => (i.zero, i.size, i.bytes)) = some (some (.agg #[.string { data := #[] }, .string { data := #[] }, .int .i64 0, .int .i64 0, .int .i64 0, .slice none 0 0]), 6, 80) := by kernel_rfl

def okBl (x : Bl) : Prop := x.1.size ≤ 9223372036854775807 ∧ x.2.1.size ≤ 9223372036854775807 ∧ ∀ y ∈ x.2.2.2.2.2, okCn y
end Go.Proofs.Ytpbibkjcjgggdaa
/- Item: its cells, and the walks of the laws' own helpers on lists of it. -/
namespace Go.Proofs.Ytpbibkjcjgggdaa
open Go.RowKit

abbrev It := ByteArray × ByteArray × Int × Int × Int × Int × Int × Int
def itF : Flat It := ⟨fun f => [.string (f.1), .string (f.2.1), .int .i64 (f.2.2.1), .int .i64 (f.2.2.2.1), .int .i64 (f.2.2.2.2.1), .int .i64 (f.2.2.2.2.2.1), .int .i64 (f.2.2.2.2.2.2.1), .int .i64 (f.2.2.2.2.2.2.2)], 8, fun _ => rfl⟩
abbrev ItemsIn (w : World) (A : Option Addr) (n : Nat) (l : List It) : Prop := RowsIn itF w A n l
theorem item_at {w : World} {A : Option Addr} {n : Nat} {l : List It} (h : ItemsIn w A n l) {k : Nat} (hk : k < l.length) :
    ∃ b o, A = some ⟨b, o, none⟩ ∧ b < w.heap.size ∧ w.cell? ⟨b, o + k * 8, none⟩ = some (.string (l[k].1)) ∧ w.cell? ⟨b, o + k * 8 + 1, none⟩ = some (.string (l[k].2.1)) ∧ w.cell? ⟨b, o + k * 8 + 2, none⟩ = some (.int .i64 (l[k].2.2.1)) ∧ w.cell? ⟨b, o + k * 8 + 3, none⟩ = some (.int .i64 (l[k].2.2.2.1)) ∧ w.cell? ⟨b, o + k * 8 + 4, none⟩ = some (.int .i64 (l[k].2.2.2.2.1)) ∧ w.cell? ⟨b, o + k * 8 + 5, none⟩ = some (.int .i64 (l[k].2.2.2.2.2.1)) ∧ w.cell? ⟨b, o + k * 8 + 6, none⟩ = some (.int .i64 (l[k].2.2.2.2.2.2.1)) ∧ w.cell? ⟨b, o + k * 8 + 7, none⟩ = some (.int .i64 (l[k].2.2.2.2.2.2.2)) := by
  obtain ⟨b, o, e, hlt, hc⟩ := h.at_ hk
  exact ⟨b, o, e, hlt, hc 0 _ rfl, hc 1 _ rfl, hc 2 _ rfl, hc 3 _ rfl, hc 4 _ rfl, hc 5 _ rfl, hc 6 _ rfl, hc 7 _ rfl⟩
theorem itemInfo : (Try.prog.info? 42).map (fun i => (i.zero, i.size, i.bytes)) = some (some (.agg #[.string ByteArray.empty, .string ByteArray.empty, .int .i64 0, .int .i64 0, .int .i64 0, .int .i64 0, .int .i64 0, .int .i64 0]), 8, 80) := by kernel_rfl
theorem itemElem : ElemOk itF 24 42 := by
  obtain ⟨i, h1, h2, h3, h4⟩ := info_parts itemInfo
  exact ⟨i, _, 80, Try.underlying24, h1, h2, h3, h4, rfl, by decide, by omega⟩
def okIt (x : It) : Prop := x.1.size ≤ 9223372036854775807 ∧ x.2.1.size ≤ 9223372036854775807
end Go.Proofs.Ytpbibkjcjgggdaa
/- Pick: its cells, and the walks of the laws' own helpers on lists of it. -/
namespace Go.Proofs.Ytpbibkjcjgggdaa
open Go.RowKit

abbrev Pk := ByteArray × ByteArray
def pkF : Flat Pk := ⟨fun f => [.string (f.1), .string (f.2)], 2, fun _ => rfl⟩
abbrev PicksIn (w : World) (A : Option Addr) (n : Nat) (l : List Pk) : Prop := RowsIn pkF w A n l
theorem pick_at {w : World} {A : Option Addr} {n : Nat} {l : List Pk} (h : PicksIn w A n l) {k : Nat} (hk : k < l.length) :
    ∃ b o, A = some ⟨b, o, none⟩ ∧ b < w.heap.size ∧ w.cell? ⟨b, o + k * 2, none⟩ = some (.string (l[k].1)) ∧ w.cell? ⟨b, o + k * 2 + 1, none⟩ = some (.string (l[k].2)) := by
  obtain ⟨b, o, e, hlt, hc⟩ := h.at_ hk
  exact ⟨b, o, e, hlt, hc 0 _ rfl, hc 1 _ rfl⟩
theorem pickInfo : (Try.prog.info? 99).map (fun i => (i.zero, i.size, i.bytes)) = some (some (.agg #[.string ByteArray.empty, .string ByteArray.empty]), 2, 32) := by kernel_rfl
theorem pickElem : ElemOk pkF 30 99 := by
  obtain ⟨i, h1, h2, h3, h4⟩ := info_parts pickInfo
  exact ⟨i, _, 32, Try.underlying30, h1, h2, h3, h4, rfl, by decide, by omega⟩
def okPk (x : Pk) : Prop := x.1.size ≤ 9223372036854775807 ∧ x.2.size ≤ 9223372036854775807
end Go.Proofs.Ytpbibkjcjgggdaa
/- Need: its cells, and the walks of the laws' own helpers on lists of it. -/
namespace Go.Proofs.Ytpbibkjcjgggdaa
open Go.RowKit

abbrev Nd := ByteArray × Int
def ndF : Flat Nd := ⟨fun f => [.string (f.1), .int .i64 (f.2)], 2, fun _ => rfl⟩
abbrev NeedsIn (w : World) (A : Option Addr) (n : Nat) (l : List Nd) : Prop := RowsIn ndF w A n l
theorem need_at {w : World} {A : Option Addr} {n : Nat} {l : List Nd} (h : NeedsIn w A n l) {k : Nat} (hk : k < l.length) :
    ∃ b o, A = some ⟨b, o, none⟩ ∧ b < w.heap.size ∧ w.cell? ⟨b, o + k * 2, none⟩ = some (.string (l[k].1)) ∧ w.cell? ⟨b, o + k * 2 + 1, none⟩ = some (.int .i64 (l[k].2)) := by
  obtain ⟨b, o, e, hlt, hc⟩ := h.at_ hk
  exact ⟨b, o, e, hlt, hc 0 _ rfl, hc 1 _ rfl⟩
theorem needInfo : (Try.prog.info? 74).map (fun i => (i.zero, i.size, i.bytes)) = some (some (.agg #[.string ByteArray.empty, .int .i64 0]), 2, 24) := by kernel_rfl
theorem needElem : ElemOk ndF 31 74 := by
  obtain ⟨i, h1, h2, h3, h4⟩ := info_parts needInfo
  exact ⟨i, _, 24, Try.underlying31, h1, h2, h3, h4, rfl, by decide, by omega⟩
def okNd (x : Nd) : Prop := x.1.size ≤ 9223372036854775807
end Go.Proofs.Ytpbibkjcjgggdaa
/- Receipt: its cells, and the walks of the laws' own helpers on lists of it. -/
namespace Go.Proofs.Ytpbibkjcjgggdaa
open Go.RowKit

abbrev Rc := ByteArray × Int × Int
def rcF : Flat Rc := ⟨fun f => [.string (f.1), .int .i64 (f.2.1), .int .i64 (f.2.2)], 3, fun _ => rfl⟩
abbrev ReceiptsIn (w : World) (A : Option Addr) (n : Nat) (l : List Rc) : Prop := RowsIn rcF w A n l
theorem receipt_at {w : World} {A : Option Addr} {n : Nat} {l : List Rc} (h : ReceiptsIn w A n l) {k : Nat} (hk : k < l.length) :
    ∃ b o, A = some ⟨b, o, none⟩ ∧ b < w.heap.size ∧ w.cell? ⟨b, o + k * 3, none⟩ = some (.string (l[k].1)) ∧ w.cell? ⟨b, o + k * 3 + 1, none⟩ = some (.int .i64 (l[k].2.1)) ∧ w.cell? ⟨b, o + k * 3 + 2, none⟩ = some (.int .i64 (l[k].2.2)) := by
  obtain ⟨b, o, e, hlt, hc⟩ := h.at_ hk
  exact ⟨b, o, e, hlt, hc 0 _ rfl, hc 1 _ rfl, hc 2 _ rfl⟩
theorem receiptInfo : (Try.prog.info? 67).map (fun i => (i.zero, i.size, i.bytes)) = some (some (.agg #[.string ByteArray.empty, .int .i64 0, .int .i64 0]), 3, 32) := by kernel_rfl
theorem receiptElem : ElemOk rcF 32 67 := by
  obtain ⟨i, h1, h2, h3, h4⟩ := info_parts receiptInfo
  exact ⟨i, _, 32, Try.underlying32, h1, h2, h3, h4, rfl, by decide, by omega⟩
def okRc (x : Rc) : Prop := x.1.size ≤ 9223372036854775807
end Go.Proofs.Ytpbibkjcjgggdaa
