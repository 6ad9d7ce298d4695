/- Plain law of the costs of lots: no program in sight. -/
namespace Go.Proofs.Ytmkfinahbelpdaa

/-- What is in stock behind period k. -/
def stockUp (needs lots : List Int) : Nat → Int
  | 0 => 0
  | k + 1 => stockUp needs lots k + lots.getD k 0 - needs.getD k 0
/-- What the first k periods cost. -/
def costUp (s h : Int) (needs lots : List Int) : Nat → Int
  | 0 => 0
  | k + 1 => costUp s h needs lots k + (if 0 < lots.getD k 0 then s else 0) + h * stockUp needs lots (k + 1)

theorem getD_of_all {l : List Int} {a b : Int} (h : ∀ x ∈ l, a ≤ x ∧ x ≤ b) (k : Nat) (hk : k < l.length) : a ≤ l.getD k 0 ∧ l.getD k 0 ≤ b := by
  rw [List.getD_eq_getElem?_getD, List.getElem?_eq_getElem hk]
  exact h _ (List.getElem_mem hk)

theorem stockUp_le (needs lots : List Int) (k : Nat) (hn : ∀ j < k, 0 ≤ needs.getD j 0) (hl : ∀ j < k, lots.getD j 0 ≤ 10000) : stockUp needs lots k ≤ 10000 * k := by
  induction k with
  | zero => simp [stockUp]
  | succ k ih =>
    have h1 := ih (fun j hj => hn j (by omega)) (fun j hj => hl j (by omega))
    have h2 := hn k (by omega)
    have h3 := hl k (by omega)
    simp only [stockUp]
    omega

theorem mul_bd {h x a b : Int} (h0 : 0 ≤ h) (h1 : h ≤ a) (x0 : 0 ≤ x) (x1 : x ≤ b) : 0 ≤ h * x ∧ h * x ≤ a * b :=
  ⟨Int.mul_nonneg h0 x0, Int.mul_le_mul h1 x1 x0 (Int.le_trans h0 h1)⟩

theorem costUp_bd (s h : Int) (needs lots : List Int) (k : Nat) (hk : k ≤ 10) (hs : 0 ≤ s ∧ s ≤ 10000) (hh : 0 ≤ h ∧ h ≤ 10000) (hn : ∀ j < k, 0 ≤ needs.getD j 0) (hl : ∀ j < k, lots.getD j 0 ≤ 10000)
    (hst : ∀ j ≤ k, 0 ≤ stockUp needs lots j) : 0 ≤ costUp s h needs lots k ∧ costUp s h needs lots k ≤ 2000000000 * k := by
  induction k with
  | zero => simp [costUp]
  | succ k ih =>
    obtain ⟨i1, i2⟩ := ih (by omega) (fun j hj => hn j (by omega)) (fun j hj => hl j (by omega)) (fun j hj => hst j (by omega))
    have hb := stockUp_le needs lots (k + 1) hn hl
    have hb2 : stockUp needs lots (k + 1) ≤ 100000 := by omega
    obtain ⟨m1, m2⟩ := mul_bd hh.1 hh.2 (hst (k + 1) (by omega)) hb2
    simp only [costUp]
    split <;> omega
end Go.Proofs.Ytmkfinahbelpdaa
