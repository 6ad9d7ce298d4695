/- Part 18 of the texts of this claim: Levels of a catalog's items (plain): the edges of bill lines; what the passes come to. -/
import Derived.Test.YtajlfdofjegdjaaRf13
import Derived.Test.YtajlfdofjegdjaaRf16
import Derived.Test.YtajlfdofjegdjaaRf3
import Derived.Test.YtajlfdofjegdjaaRf17
import Derived.Test.YtajlfdofjegdjaaRf8
import Derived.Test.YtajlfdofjegdjaaRf9
/- Levels of a catalog's items (plain): the edges of bill lines; what the passes come to. -/
namespace Go.Proofs.Ytajlfdofjegdjaa
open Go.RowKit
def edges (it : List It) (ls : List Bl) : List (Nat × Nat) := ls.map fun x => ((findIt it x.1).toNat, (findIt it x.2.1).toNat)
def natI (m : List Nat) : List Int := m.map (fun x : Nat => (x : Int))
theorem natI_len (m : List Nat) : (natI m).length = m.length := by simp [natI]
theorem natI_getD (m : List Nat) (i : Nat) : (natI m).getD i 0 = (m.getD i 0 : Int) := by
  unfold natI
  rw [List.getD_eq_getElem?_getD, List.getD_eq_getElem?_getD, List.getElem?_map]
  cases m[i]? <;> rfl
theorem natI_set (m : List Nat) (i x : Nat) : (natI m).set i (x : Int) = natI (m.set i x) := by
  unfold natI; rw [List.map_set]
theorem natI_zero (n : Nat) : natI (List.replicate n 0) = List.replicate n 0 := by unfold natI; rw [List.map_replicate]; rfl
theorem edges_len (it : List It) (ls : List Bl) : (edges it ls).length = ls.length := by simp [edges]
theorem edges_at (it : List It) (ls : List Bl) {k : Nat} (hk : k < ls.length) {p q : Nat} (hp : findIt it ls[k].1 = (p : Int)) (hq : findIt it ls[k].2.1 = (q : Int)) : (edges it ls).getD k (0, 0) = (p, q) := by
  rw [List.getD_eq_getElem?_getD, List.getElem?_eq_getElem (by rw [edges_len]; exact hk)]
  simp only [edges, List.getElem_map, Option.getD_some]
  rw [hp, hq]; rfl
theorem edges_lt {it : List It} {ls : List Bl} (h : ∀ k (hk : k < ls.length), 0 ≤ findIt it ls[k].1 ∧ 0 ≤ findIt it ls[k].2.1) : ∀ k, k < (edges it ls).length → ((edges it ls).getD k (0, 0)).1 < it.length ∧ ((edges it ls).getD k (0, 0)).2 < it.length := by
  intro k hk
  rw [edges_len] at hk
  obtain ⟨h1, h2⟩ := h k hk
  rw [List.getD_eq_getElem?_getD, List.getElem?_eq_getElem (by rw [edges_len]; exact hk)]
  simp only [edges, List.getElem_map, Option.getD_some]
  exact ⟨findIt_lt h1, findIt_lt h2⟩
section
variable {E : List (Nat × Nat)} {n : Nat}
theorem passTo_bd (s : List Nat) (B : Nat) (h : ∀ i, s.getD i 0 ≤ B) (k : Nat) : ∀ i, (passTo E s k).1.getD i 0 ≤ B + k := by
  induction k with
  | zero => exact h
  | succ k ih =>
    intro i
    have h1 := ih i
    have h2 := ih (E.getD k (0, 0)).1
    simp only [passTo]
    split
    · by_cases hd : (E.getD k (0, 0)).2 < (passTo E s k).1.length
      · rw [natD_set _ _ _ _ hd]
        split <;> omega
      · show ((passTo E s k).1.set _ _).getD i 0 ≤ _
        rw [List.set_eq_of_length_le (by omega)]; omega
    · omega
theorem runTo_bd (r : Nat) : ∀ i, (runTo E n r).getD i 0 ≤ r * E.length := by
  induction r with
  | zero =>
    intro i
    simp only [runTo]
    rw [List.getD_eq_getElem?_getD, List.getElem?_replicate]
    split <;> simp
  | succ r ih =>
    intro i
    have := passTo_bd (E := E) (runTo E n r) _ ih E.length i
    simp only [runTo]
    rw [Nat.succ_mul]; exact this
theorem passTo_yes {s : List Nat} {k p q : Nat} (he : E.getD k (0, 0) = (p, q)) (h : (passTo E s k).1.getD q 0 ≤ (passTo E s k).1.getD p 0) : passTo E s (k + 1) = ((passTo E s k).1.set q ((passTo E s k).1.getD p 0 + 1), true) := by
  simp only [passTo, he]; rw [if_pos h]
theorem passTo_no {s : List Nat} {k p q : Nat} (he : E.getD k (0, 0) = (p, q)) (h : ¬ (passTo E s k).1.getD q 0 ≤ (passTo E s k).1.getD p 0) : passTo E s (k + 1) = passTo E s k := by
  simp only [passTo, he]; rw [if_neg h]
theorem turned_stays {r : Nat} (h : turned E n r = false) (d : Nat) : runTo E n (r + d) = runTo E n r ∧ turned E n (r + d) = false := by
  induction d with
  | zero => exact ⟨rfl, h⟩
  | succ d ih =>
    obtain ⟨h1, h2⟩ := ih
    have h3 : runTo E n (r + (d + 1)) = runTo E n (r + d) := (pass_rest (E := E) (runTo E n (r + d)) E.length (Nat.le_refl _) h2).1
    refine ⟨h3.trans h1, ?_⟩
    unfold turned
    rw [h3]; exact h2
/-- The levels; none if some way never ends. -/
def levI (E : List (Nat × Nat)) (n : Nat) : List Int := if turned E n n = true then [] else natI (runTo E n n)
theorem levI_none (h : turned E n n = true) : levI E n = [] := by unfold levI; rw [if_pos h]
theorem levI_some (h : turned E n n = false) : levI E n = natI (runTo E n n) := by unfold levI; rw [if_neg (by rw [h]; decide)]
theorem levI_stop (hE : ∀ k, k < E.length → (E.getD k (0, 0)).1 < n ∧ (E.getD k (0, 0)).2 < n) {r : Nat} (hr : r ≤ n + 1) (h : turned E n r = false) : turned E n n = false ∧ levI E n = natI (runTo E n (r + 1)) := by
  have hn : turned E n n = false ∧ runTo E n (r + 1) = runTo E n n := by
    by_cases h1 : r ≤ n
    · have h2 := turned_stays h (n - r)
      rw [show r + (n - r) = n by omega] at h2
      exact ⟨h2.2, (turned_stays h 1).1.trans h2.1.symm⟩
    · obtain rfl : r = n + 1 := by omega
      have h2 := turned_one hE h
      exact ⟨h2, (turned_stays h2 2).1⟩
  exact ⟨hn.1, by rw [levI_some hn.1, hn.2]⟩
theorem turned_pos (hE : ∀ k, k < E.length → (E.getD k (0, 0)).1 < n ∧ (E.getD k (0, 0)).2 < n) {r : Nat} (h : turned E n r = true) : 0 < n := by
  rcases Nat.eq_zero_or_pos E.length with h1 | h1
  · exfalso
    unfold turned at h
    rw [h1] at h
    simp [passTo] at h
  · have := hE 0 h1; omega
theorem levI_len : (levI E n).length = if turned E n n = true then 0 else n := by
  unfold levI
  split
  · rfl
  · rw [natI_len, runTo_len]
end
theorem NumRow.cellD {w : World} {lo g n c : Nat} {l : List Int} (h : NumRow w lo g n c l) {j : Nat} (hj : j < n) : w.cell? ⟨g, j, none⟩ = some (.int .i64 (l.getD j 0)) := by
  rw [h.cell (by rw [h.len]; exact hj), List.getD_eq_getElem?_getD, List.getElem?_eq_getElem (by rw [h.len]; exact hj)]; rfl
theorem NumRow.ownI {w : World} {lo g n c : Nat} {l : List Int} (h : NumRow w lo g n c l) : OwnInts w lo (some ⟨g, 0, none⟩) n c l := h
theorem ownI_nil (w : World) (lo : Nat) : OwnInts w lo none 0 0 [] := ⟨rfl, World.ownsRow_nil _ _ _ _⟩
theorem natD_at (m : List Nat) (i : Nat) : (natI m).getD i 0 = ((m.getD i 0 : Nat) : Int) := natI_getD m i
end Go.Proofs.Ytajlfdofjegdjaa
