/- The walks of OverloadOf. -/
import Derived.Test.YtmkfinahbelpdaaHours
import Derived.Test.YtmkfinahbelpdaaMinutes
import Derived.Test.YtmkfinahbelpdaaOpenCal
import Derived.Deep.RegionHeld3
import Derived.Deep.DeepMust
namespace Go.Proofs.Ytmkfinahbelpdaa
open Go.RowKit
def overTo (l : List Ld) (wk : List Int) (ex : List (Int × Int)) (m : Int) : Nat → Int
  | 0 => 0
  | k + 1 => overTo l wk ex m k + max 0 ((l.getD k ldNone).2.2 - minutesOn wk ex m (l.getD k ldNone).2.1)
def overloadOf (l : List Ld) (wk : List Int) (ex : List (Int × Int)) (m : Int) : Int := if areMinutes l then overTo l wk ex m l.length else 0
theorem areMinutes_parts {l : List Ld} (h : areMinutes l = true) : l.length ≤ 200 ∧ ∀ k (hk : k < l.length), 0 ≤ l[k].2.1 ∧ l[k].2.1 ≤ 999 ∧ 0 ≤ l[k].2.2 ∧ l[k].2.2 ≤ 1000000000 := by
  simp only [areMinutes, Bool.and_eq_true, decide_eq_true_eq, List.all_eq_true, List.mem_range, okMin, inB_iff] at h
  refine ⟨by omega, fun k hk => ?_⟩
  have h1 := h.1 k hk
  rw [ld_getD _ _ hk] at h1
  exact ⟨h1.2.2.1.1, h1.2.2.1.2, h1.2.2.2.1.1, h1.2.2.2.1.2⟩
theorem overTo_bd {l : List Ld} (h : areMinutes l = true) (wk : List Int) (ex : List (Int × Int)) (m : Int) (k : Nat) (hk : k ≤ l.length) : 0 ≤ overTo l wk ex m k ∧ overTo l wk ex m k ≤ 1000000000 * k := by
  induction k with
  | zero => simp [overTo]
  | succ k ih =>
    obtain ⟨i1, i2⟩ := ih (by omega)
    have h1 := (areMinutes_parts h).2 k (by omega)
    obtain ⟨h2, h3⟩ := minutesOn_bd wk ex m l[k].2.1
    simp only [overTo]
    rw [ld_getD _ _ (by omega)]
    omega
theorem overTo_next {l : List Ld} (wk : List Int) (ex : List (Int × Int)) (m : Int) (k : Nat) (hk : k < l.length) : overTo l wk ex m (k + 1) = overTo l wk ex m k + if 0 < l[k].2.2 - minutesOn wk ex m l[k].2.1 then l[k].2.2 - minutesOn wk ex m l[k].2.1 else 0 := by
  simp only [overTo]
  rw [ld_getD _ _ hk]
  split <;> omega
theorem overloadOf_no {l : List Ld} {wk : List Int} {ex : List (Int × Int)} {m : Int} (h : areMinutes l = false) : overloadOf l wk ex m = 0 := by simp [overloadOf, h]
theorem overloadOf_yes {l : List Ld} {wk : List Int} {ex : List (Int × Int)} {m : Int} (h : areMinutes l = true) : overloadOf l wk ex m = overTo l wk ex m l.length := by simp [overloadOf, h]
theorem overloadOf_nil {wk : List Int} {ex : List (Int × Int)} {m : Int} : overloadOf [] wk ex m = 0 := by unfold overloadOf; split <;> rfl
theorem over_wrap {l : List Ld} (h : areMinutes l = true) (wk : List Int) (ex : List (Int × Int)) (m : Int) (k : Nat) (hk : k < l.length) :
    IntKind.i64.wrap (overTo l wk ex m k + if minutesOn wk ex m l[k].2.1 < l[k].2.2 then l[k].2.2 - minutesOn wk ex m l[k].2.1 else 0) = overTo l wk ex m (k + 1) := by
  obtain ⟨z1, z2⟩ := overTo_bd h wk ex m k (by omega)
  obtain ⟨v1, v2⟩ := minutesOn_bd wk ex m l[k].2.1
  have h1 := (areMinutes_parts h).2 k hk
  have h2 := (areMinutes_parts h).1
  rw [overTo_next wk ex m k hk]
  split
  · rw [if_pos (by omega)]; exact IntWalk.i64_in _ (by omega)
  · rw [if_neg (by omega)]; exact IntWalk.i64_in _ (by omega)
theorem over_end {l : List Ld} {wk : List Int} {ex : List (Int × Int)} {m : Int} (h : 0 < l.length → areMinutes l = true) : overTo l wk ex m l.length = overloadOf l wk ex m := by
  cases l with
  | nil => rw [overloadOf_nil]; rfl
  | cons a t => rw [overloadOf_yes (h (by simp))]
theorem boxOf_two {w : World} {N : Nat} {x y : Value} (h0 : w.cell? ⟨N, 0, none⟩ = some x) (h1 : w.cell? ⟨N, 1, none⟩ = some y) (h : N < w.heap.size) : BoxOf w N [x, y] := by
  refine ⟨h, fun j u hu => ?_⟩
  match j, hu with
  | 0, hu => rw [h0]; exact hu
  | 1, hu => rw [h1]; exact hu
end Go.Proofs.Ytmkfinahbelpdaa
