/- Lots for needs: what the reference's loop and the program's come to. -/
import Derived.Test.YtdofhdelcendeaaLotRule
import Derived.Test.YtdofhdelcendeaaAddPlain
namespace Go.Proofs.Ytdofhdelcendeaa

theorem ceil_eq (n d : Int) (hd : 1 ≤ d) : -((-n) / d) = (n + d - 1) / d := by
  have h1 := Int.mul_ediv_add_emod (-n) d
  have h2 := Int.emod_nonneg (-n) (show d ≠ 0 by omega)
  have h3 := Int.emod_lt_of_pos (-n) (show 0 < d by omega)
  symm
  rw [show n + d - 1 = (d - 1 - (-n) % d) + d * (-((-n) / d)) by rw [Int.mul_neg]; omega, Int.add_mul_ediv_left _ _ (by omega), Int.ediv_eq_zero_of_lt (by omega) (by omega)]
  omega
/-- The size of a lot of whole pieces of 'size' that covers n. -/
def lotUp (n size : Int) : Int := (n + size - 1) / size * size
theorem lotUp_bd (n size : Int) (h1 : 1 ≤ size) (h2 : size ≤ 1000) (h3 : 1 ≤ n) (h4 : n ≤ 1000000000) : n ≤ lotUp n size ∧ lotUp n size - n < size ∧ lotUp n size ≤ 1000001000 ∧ 0 ≤ (n + size - 1) / size ∧ (n + size - 1) / size ≤ 1000001000 := by
  have e1 := Int.mul_ediv_add_emod (n + size - 1) size
  have e2 := Int.emod_nonneg (n + size - 1) (show size ≠ 0 by omega)
  have e3 := Int.emod_lt_of_pos (n + size - 1) (show 0 < size by omega)
  have e4 : lotUp n size = size * ((n + size - 1) / size) := Int.mul_comm _ _
  have e5 : 0 ≤ (n + size - 1) / size := Int.ediv_nonneg (by omega) (by omega)
  have e6 : (n + size - 1) / size ≤ n + size - 1 := Int.ediv_le_self _ (by omega)
  omega
def lastDay (l : List Fl) : Int := (l.getD (l.length - 1) (0, 0)).1
/-- The last flow with so much more. -/
def bump (l : List Fl) (q : Int) : List Fl := l.set (l.length - 1) (lastDay l, (l.getD (l.length - 1) (0, 0)).2 + q)
theorem bump_len (l : List Fl) (q : Int) : (bump l q).length = l.length := by simp [bump]
theorem bump_last (l : List Fl) (q : Int) : lastDay (bump l q) = lastDay l := by
  unfold lastDay
  rw [bump_len]
  unfold bump
  rcases Nat.eq_zero_or_pos l.length with h | h
  · have : l = [] := List.eq_nil_of_length_eq_zero h
    subst this; rfl
  · rw [getD_at _ _ _ (by simp; omega), List.getElem_set, if_pos rfl]; rfl
theorem lastDay_snoc (l : List Fl) (f : Fl) : lastDay (l ++ [f]) = f.1 := by
  unfold lastDay
  rw [getD_at _ _ _ (by simp)]; simp
def lotStep (rule size : Int) (s : List Fl × Int) (f : Fl) : List Fl × Int :=
  if rule = 1 then
    if s.2 < f.2 then (s.1 ++ [(f.1, lotUp (f.2 - s.2) size)], lotUp (f.2 - s.2) size - (f.2 - s.2)) else (s.1, s.2 - f.2)
  else if rule = 2 ∧ 0 < s.1.length ∧ f.1 < lastDay s.1 + size then (bump s.1 f.2, s.2) else (s.1 ++ [f], s.2)
def lotTo (rule size : Int) (needs : List Fl) (k : Nat) : List Fl × Int := (needs.take k).foldl (lotStep rule size) ([], 0)
theorem lotTo_succ (rule size : Int) (needs : List Fl) (k : Nat) (h : k < needs.length) : lotTo rule size needs (k + 1) = lotStep rule size (lotTo rule size needs k) needs[k] := by
  unfold lotTo
  rw [List.take_succ_eq_append_getElem h, List.foldl_append]; rfl
/-- What holds of the lots at each place. -/
theorem lotTo_parts (rule size : Int) (needs : List Fl) (hf : areFlows needs = true) (hr : lotRule rule size = true) (k : Nat) (hk : k ≤ needs.length) :
    (lotTo rule size needs k).1.length ≤ k ∧ 0 ≤ (lotTo rule size needs k).2 ∧ (lotTo rule size needs k).2 ≤ 999 ∧ ∀ f ∈ (lotTo rule size needs k).1, 0 ≤ f.1 ∧ f.1 ≤ 999 ∧ 0 ≤ f.2 ∧ f.2 ≤ 1000001000 * k := by
  induction k with
  | zero => simp [lotTo]
  | succ k ih =>
    obtain ⟨h1, h2, h3, h4⟩ := ih (by omega)
    obtain ⟨⟨m1, m2⟩, m3, m4⟩ := areFlows_mem hf needs[k] (List.getElem_mem (by omega))
    rw [lotTo_succ rule size needs k (by omega)]
    have hmore : ∀ f ∈ (lotTo rule size needs k).1, 0 ≤ f.1 ∧ f.1 ≤ 999 ∧ 0 ≤ f.2 ∧ f.2 ≤ 1000001000 * ((k + 1 : Nat) : Int) := fun f hx => by have := h4 f hx; omega
    have hone : ∀ (l : List Fl) (x : Fl), (∀ f ∈ l, 0 ≤ f.1 ∧ f.1 ≤ 999 ∧ 0 ≤ f.2 ∧ f.2 ≤ 1000001000 * ((k + 1 : Nat) : Int)) → (0 ≤ x.1 ∧ x.1 ≤ 999 ∧ 0 ≤ x.2 ∧ x.2 ≤ 1000001000 * ((k + 1 : Nat) : Int)) →
        ∀ f ∈ l ++ [x], 0 ≤ f.1 ∧ f.1 ≤ 999 ∧ 0 ≤ f.2 ∧ f.2 ≤ 1000001000 * ((k + 1 : Nat) : Int) := fun l x ha hb f hx => by
      rcases List.mem_append.1 hx with h | h
      · exact ha f h
      · have : f = x := by simpa using h
        rw [this]; exact hb
    unfold lotStep
    split
    · rename_i hr1
      have hs : 1 ≤ size ∧ size ≤ 1000 := by
        subst hr1
        simp [lotRule, inB] at hr
        exact hr
      split
      · obtain ⟨b1, b2, b3, b4, b5⟩ := lotUp_bd (needs[k].2 - (lotTo rule size needs k).2) size hs.1 hs.2 (by omega) (by omega)
        refine ⟨by simp; omega, by simp only; omega, by simp only; omega, hone _ _ hmore ⟨m1, m2, by simp only; omega, by simp only; omega⟩⟩
      · exact ⟨by simp only; omega, by simp only; omega, by simp only; omega, hmore⟩
    · split
      · rename_i hc
        obtain ⟨_, c1, _⟩ := hc
        have hlast : (lotTo rule size needs k).1.length - 1 < (lotTo rule size needs k).1.length := by omega
        obtain ⟨l1, l2, l3, l4⟩ := h4 _ (List.getElem_mem hlast)
        refine ⟨by simp only [bump_len]; omega, h2, h3, fun f hx => ?_⟩
        simp only [bump] at hx
        rcases List.mem_or_eq_of_mem_set hx with h | h
        · exact hmore f h
        · rw [h]
          unfold lastDay
          rw [getD_at _ _ _ hlast]
          exact ⟨l1, l2, by simp only; omega, by simp only; omega⟩
      · exact ⟨by simp; omega, h2, h3, hone _ _ hmore ⟨m1, m2, by omega, by omega⟩⟩
def lotsFor (needs : List Fl) (rule size : Int) : List Fl × Bool :=
  if (lotRule rule size && areFlows needs) && areFlows (lotTo rule size needs needs.length).1 then ((lotTo rule size needs needs.length).1, true) else ([], false)
theorem lotsFor_no {needs : List Fl} {rule size : Int} (h : ((lotRule rule size && areFlows needs) && areFlows (lotTo rule size needs needs.length).1) = false) : lotsFor needs rule size = ([], false) := by unfold lotsFor; rw [h]; rfl
theorem lotsFor_yes {needs : List Fl} {rule size : Int} (h : ((lotRule rule size && areFlows needs) && areFlows (lotTo rule size needs needs.length).1) = true) : lotsFor needs rule size = ((lotTo rule size needs needs.length).1, true) := by unfold lotsFor; rw [h]; rfl
theorem lotsFor_flows (needs : List Fl) (rule size : Int) : areFlows (lotsFor needs rule size).1 = true := by
  unfold lotsFor
  split
  · rename_i h
    simp only [Bool.and_eq_true] at h
    exact h.2
  · rfl
theorem lotsFor_len (needs : List Fl) (rule size : Int) : (lotsFor needs rule size).1.length ≤ 16777216 := by
  have := (areFlows_parts (lotsFor_flows needs rule size)).2
  omega
end Go.Proofs.Ytdofhdelcendeaa
