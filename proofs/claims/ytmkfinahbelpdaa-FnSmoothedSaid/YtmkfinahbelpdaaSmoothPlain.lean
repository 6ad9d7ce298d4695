/- Smoothing loads (plain): the minutes of each day, moved from the last day on. -/
import Derived.Test.YtmkfinahbelpdaaOverload
namespace Go.Proofs.Ytmkfinahbelpdaa
open Go.RowKit
def dayRow (l : List Ld) (k : Nat) : List Int := (l.take k).foldl (fun m x => m.set x.2.1.toNat x.2.2) (List.replicate 1000 0)
theorem dayRow_next (l : List Ld) (k : Nat) (h : k < l.length) : dayRow l (k + 1) = (dayRow l k).set l[k].2.1.toNat l[k].2.2 := by
  unfold dayRow
  rw [List.take_succ_eq_append_getElem h, List.foldl_append]; rfl
theorem dayRow_len (l : List Ld) (k : Nat) (hk : k ≤ l.length) : (dayRow l k).length = 1000 := by
  induction k with
  | zero => exact List.length_replicate ..
  | succ k ih => rw [dayRow_next l k (by omega), List.length_set, ih (by omega)]
theorem getD_set (m : List Int) (d i : Nat) (x : Int) (hd : d < m.length) : (m.set d x).getD i 0 = if d = i then x else m.getD i 0 := by
  rw [List.getD_eq_getElem?_getD, List.getElem?_set, List.getD_eq_getElem?_getD]
  by_cases h : d = i
  · subst h; rw [if_pos rfl, if_pos hd, if_pos rfl]; rfl
  · rw [if_neg h, if_neg h]
theorem getD_at (m : List Int) (i : Nat) (h : i < m.length) : m.getD i 0 = m[i] := by rw [List.getD_eq_getElem?_getD, List.getElem?_eq_getElem h]; rfl
theorem dayRow_bd {l : List Ld} (h : areMinutes l = true) (k : Nat) (hk : k ≤ l.length) (i : Nat) : 0 ≤ (dayRow l k).getD i 0 ∧ (dayRow l k).getD i 0 ≤ 1000000000 := by
  induction k with
  | zero =>
    have : (dayRow l 0).getD i 0 = 0 := by
      simp only [dayRow, List.take_zero, List.foldl_nil]
      rw [List.getD_eq_getElem?_getD, List.getElem?_replicate]
      split <;> rfl
    omega
  | succ k ih =>
    have h1 := (areMinutes_parts h).2 k (by omega)
    rw [dayRow_next l k (by omega), getD_set _ _ _ _ (by rw [dayRow_len l k (by omega)]; omega)]
    have := ih (by omega)
    split <;> omega
/-- What is too much on day d goes to the day before. -/
def overD (cap : Int → Int) (m : List Int) (d : Nat) : Int := max 0 (m.getD d 0 - cap d)
def smStep (cap : Int → Int) (m : List Int) (d : Nat) : List Int := (m.set d (m.getD d 0 - overD cap m d)).set (d - 1) (m.getD (d - 1) 0 + overD cap m d)
def smTo (cap : Int → Int) (m : List Int) : Nat → List Int
  | 0 => m
  | j + 1 => smStep cap (smTo cap m j) (999 - j)
structure SmOk (m : List Int) (j : Nat) : Prop where
  len : m.length = 1000
  nn : ∀ i, 0 ≤ m.getD i 0
  le : ∀ i, m.getD i 0 ≤ 1000000000 * ((j : Int) + 1)
  low : ∀ i, i < 999 - j → m.getD i 0 ≤ 1000000000
theorem SmOk.step {cap : Int → Int} (hc : ∀ d, 0 ≤ cap d) {m : List Int} {j : Nat} (h : SmOk m j) (hj : j < 999) : SmOk (smStep cap m (999 - j)) (j + 1) := by
  have hl := h.len
  have e : ∀ i, (smStep cap m (999 - j)).getD i 0 = if 999 - j - 1 = i then m.getD (999 - j - 1) 0 + overD cap m (999 - j) else if 999 - j = i then m.getD (999 - j) 0 - overD cap m (999 - j) else m.getD i 0 := fun i => by
    unfold smStep
    rw [getD_set _ _ _ _ (by rw [List.length_set]; omega), getD_set _ _ _ _ (by omega)]
  have h0 := h.nn (999 - j)
  have h1 := h.le (999 - j)
  have h2 := h.nn (999 - j - 1)
  have h3 := h.low (999 - j - 1) (by omega)
  have hcd := hc ((999 - j : Nat) : Int)
  have ho : 0 ≤ overD cap m (999 - j) ∧ overD cap m (999 - j) ≤ m.getD (999 - j) 0 := by unfold overD; omega
  refine ⟨by unfold smStep; rw [List.length_set, List.length_set]; exact hl, fun i => ?_, fun i => ?_, fun i hi => ?_⟩
  · rw [e]
    have := h.nn i
    split
    · omega
    · split <;> omega
  · rw [e]
    have := h.le i
    split
    · omega
    · split <;> omega
  · rw [e]
    have := h.low i (by omega)
    split
    · omega
    · split <;> omega
theorem smTo_ok {cap : Int → Int} (hc : ∀ d, 0 ≤ cap d) {m : List Int} (h : SmOk m 0) (j : Nat) (hj : j ≤ 999) : SmOk (smTo cap m j) j := by
  induction j with
  | zero => exact h
  | succ j ih => exact (ih (by omega)).step hc (by omega)
theorem dayRow_ok {l : List Ld} (h : areMinutes l = true) : SmOk (dayRow l l.length) 0 :=
  ⟨dayRow_len l _ (Nat.le_refl _), fun i => (dayRow_bd h _ (Nat.le_refl _) i).1, fun i => by have := (dayRow_bd h _ (Nat.le_refl _) i).2; omega, fun i _ => (dayRow_bd h _ (Nat.le_refl _) i).2⟩
/-- The days that have something to do. -/
def outTo (c : ByteArray) (m : List Int) : Nat → List Ld
  | 0 => []
  | k + 1 => if 0 < m.getD k 0 then outTo c m k ++ [(c, (k : Int), m.getD k 0)] else outTo c m k
theorem outTo_len (c : ByteArray) (m : List Int) (k : Nat) : (outTo c m k).length ≤ k := by
  induction k with
  | zero => exact Nat.le_refl _
  | succ k ih =>
    simp only [outTo]
    split
    · rw [List.length_append]; simp; exact ih
    · omega
theorem outTo_zero (c : ByteArray) (m : List Int) (h : ∀ i, m.getD i 0 = 0) (k : Nat) : outTo c m k = [] := by
  induction k with
  | zero => rfl
  | succ k ih => simp only [outTo]; rw [if_neg (by rw [h]; omega)]; exact ih
theorem outTo_nil (c d : ByteArray) (m : List Int) (k : Nat) (h : outTo c m k = []) : outTo d m k = [] := by
  induction k with
  | zero => rfl
  | succ k ih =>
    simp only [outTo] at h ⊢
    by_cases hp : 0 < m.getD k 0
    · rw [if_pos hp] at h; simp at h
    · rw [if_neg hp] at h ⊢; exact ih h
def smRow (l : List Ld) (wk : List Int) (ex : List (Int × Int)) (q : Int) (j : Nat) : List Int := smTo (minutesOn wk ex q) (dayRow l l.length) j
def smoothLoads (l : List Ld) (wk : List Int) (ex : List (Int × Int)) (q : Int) : List Ld × Bool :=
  if areMinutes l && (isCal wk ex && inB q 0 20) then (outTo (l.headD ldNone).1 (smRow l wk ex q 999) 1000, true) else ([], false)
theorem smoothLoads_no {l : List Ld} {wk : List Int} {ex : List (Int × Int)} {q : Int} (h : (areMinutes l && (isCal wk ex && inB q 0 20)) = false) : smoothLoads l wk ex q = ([], false) := by simp [smoothLoads, h]
theorem smoothLoads_yes {l : List Ld} {wk : List Int} {ex : List (Int × Int)} {q : Int} (h : (areMinutes l && (isCal wk ex && inB q 0 20)) = true) : smoothLoads l wk ex q = (outTo (l.headD ldNone).1 (smRow l wk ex q 999) 1000, true) := by simp [smoothLoads, h]
theorem smRow_ok {l : List Ld} (h : areMinutes l = true) (wk : List Int) (ex : List (Int × Int)) (q : Int) (j : Nat) (hj : j ≤ 999) : SmOk (smRow l wk ex q j) j :=
  smTo_ok (fun d => (minutesOn_bd wk ex q d).1) (dayRow_ok h) j hj
/-- No loads: nothing to do on any day. -/
theorem smRow_nil (wk : List Int) (ex : List (Int × Int)) (q : Int) (j : Nat) (i : Nat) (hj : j ≤ 999) : (smRow [] wk ex q j).getD i 0 = 0 := by
  induction j generalizing i with
  | zero =>
    have : smRow [] wk ex q 0 = List.replicate 1000 0 := rfl
    rw [this, List.getD_eq_getElem?_getD, List.getElem?_replicate]
    split <;> rfl
  | succ j ih =>
    have hok := smRow_ok (l := []) (by rfl) wk ex q j (by omega)
    have hl := hok.len
    show (smStep _ (smRow [] wk ex q j) (999 - j)).getD i 0 = 0
    have hcap := (minutesOn_bd wk ex q ((999 - j : Nat) : Int)).1
    have hov : overD (minutesOn wk ex q) (smRow [] wk ex q j) (999 - j) = 0 := by
      unfold overD; rw [ih _ (by omega)]; omega
    unfold smStep
    rw [hov, getD_set _ _ _ _ (by rw [List.length_set]; omega), getD_set _ _ _ _ (by omega), ih _ (by omega), ih _ (by omega), ih _ (by omega)]
    split
    · rfl
    · split <;> rfl
theorem smRow_nil_out (c : ByteArray) (wk : List Int) (ex : List (Int × Int)) (q : Int) (k : Nat) : outTo c (smRow [] wk ex q 999) k = [] := outTo_zero c _ (fun i => smRow_nil wk ex q 999 i (by omega)) k
theorem smRow_next {l : List Ld} {wk : List Int} {ex : List (Int × Int)} {q : Int} (j : Nat) : smRow l wk ex q (j + 1) = smStep (minutesOn wk ex q) (smRow l wk ex q j) (999 - j) := rfl
end Go.Proofs.Ytmkfinahbelpdaa
