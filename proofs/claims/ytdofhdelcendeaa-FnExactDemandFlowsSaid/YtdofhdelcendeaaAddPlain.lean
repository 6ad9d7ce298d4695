/- Adding a flow to flows in ascending order: the reference's way and the program's come to one. -/
import Derived.Test.YtdofhdelcendeaaFlowPlain
namespace Go.Proofs.Ytdofhdelcendeaa

/-- The reference's way. -/
def addS : List Fl → Int → Int → List Fl
  | [], d, q => [(d, q)]
  | f :: t, d, q => if f.1 < d then f :: addS t d q else if f.1 = d then (f.1, f.2 + q) :: t else (d, q) :: f :: t
theorem addS_take (l : List Fl) (d q : Int) (k : Nat) (hk : k ≤ l.length) (h : ∀ j (hj : j < l.length), j < k → l[j].1 < d) : addS l d q = l.take k ++ addS (l.drop k) d q := by
  induction l generalizing k with
  | nil => simp at hk; subst hk; simp
  | cons f t ih =>
    cases k with
    | zero => simp
    | succ k =>
      have h0 := h 0 (by simp) (by omega)
      simp at h0
      have := ih k (by simpa using hk) (fun j hj hjk => by have := h (j + 1) (by simpa using hj) (by omega); simpa using this)
      simp [addS, h0, this]
theorem addS_end (l : List Fl) (d q : Int) (h : ∀ j (hj : j < l.length), j < l.length → l[j].1 < d) : addS l d q = l ++ [(d, q)] := by
  rw [addS_take l d q l.length (Nat.le_refl _) h]; simp [addS]
theorem addS_eq (l : List Fl) (d q : Int) (k : Nat) (hk : k < l.length) (h : ∀ j (hj : j < l.length), j < k → l[j].1 < d) (he : l[k].1 = d) : addS l d q = l.set k (l[k].1, l[k].2 + q) := by
  rw [addS_take l d q k (by omega) h, List.drop_eq_getElem_cons hk, addS, if_neg (by omega), if_pos he, List.set_eq_take_append_cons_drop, if_pos hk]
theorem addS_gt (l : List Fl) (d q : Int) (k : Nat) (hk : k < l.length) (h : ∀ j (hj : j < l.length), j < k → l[j].1 < d) (hg : d < l[k].1) : addS l d q = l.take k ++ [(d, q)] ++ l.drop k := by
  rw [addS_take l d q k (by omega) h, List.drop_eq_getElem_cons hk, addS, if_neg (by omega), if_neg (by omega)]
  simp
theorem addS_len (l : List Fl) (d q : Int) : (addS l d q).length ≤ l.length + 1 := by
  induction l with
  | nil => simp [addS]
  | cons f t ih =>
    simp only [addS]
    split
    · simp; omega
    · split <;> simp
/-- The program's way: one step. -/
def addStep (d q : Int) (s : List Fl × Bool) (f : Fl) : List Fl × Bool :=
  let o := if !s.2 && decide (d < f.1) then s.1 ++ [(d, q)] else s.1
  if d = f.1 then (o ++ [(f.1, f.2 + q)], true) else (o ++ [f], s.2 || decide (d < f.1))
def addTo (l : List Fl) (d q : Int) (k : Nat) : List Fl × Bool := (l.take k).foldl (addStep d q) ([], false)
def addI (l : List Fl) (d q : Int) : List Fl := if (addTo l d q l.length).2 then (addTo l d q l.length).1 else (addTo l d q l.length).1 ++ [(d, q)]
theorem addTo_succ (l : List Fl) (d q : Int) (k : Nat) (h : k < l.length) : addTo l d q (k + 1) = addStep d q (addTo l d q k) l[k] := by
  unfold addTo
  rw [List.take_succ_eq_append_getElem h, List.foldl_append]; rfl
theorem addTo_len (l : List Fl) (d q : Int) (k : Nat) (hk : k ≤ l.length) : (addTo l d q k).1.length ≤ 2 * k := by
  induction k with
  | zero => simp [addTo]
  | succ k ih =>
    have := ih (by omega)
    rw [addTo_succ l d q k (by omega)]
    unfold addStep
    simp only
    split <;> split <;> simp <;> omega
/-- The days ascend. -/
def ascends (l : List Fl) : Prop := ∀ i j (hj : j < l.length) (_ : i < j), (l[i]'(by omega)).1 < l[j].1
theorem ascends_tail {f : Fl} {t : List Fl} (h : ascends (f :: t)) : ascends t := fun i j hj hij => by
  have := h (i + 1) (j + 1) (by simpa using hj) (by omega)
  simpa using this
theorem ascends_head {f : Fl} {t : List Fl} (h : ascends (f :: t)) : ∀ g ∈ t, f.1 < g.1 := fun g hg => by
  obtain ⟨i, hi, rfl⟩ := List.getElem_of_mem hg
  have := h 0 (i + 1) (by simpa using hi) (by omega)
  simpa using this
theorem ascends_cons {f : Fl} {t : List Fl} (h : ascends t) (hf : ∀ g ∈ t, f.1 < g.1) : ascends (f :: t) := by
  intro i j hj hij
  cases j with
  | zero => omega
  | succ j =>
    cases i with
    | zero => simpa using hf _ (List.getElem_mem (by simpa using hj))
    | succ i => simpa using h i j (by simpa using hj) (by omega)
theorem fold_put (d q : Int) (t o : List Fl) (h : ∀ g ∈ t, d < g.1) : t.foldl (addStep d q) (o, true) = (o ++ t, true) := by
  induction t generalizing o with
  | nil => simp
  | cons f t ih =>
    have h0 := h f List.mem_cons_self
    rw [List.foldl_cons]
    have : addStep d q (o, true) f = (o ++ [f], true) := by
      unfold addStep
      rw [if_neg (by omega)]
      simp
    rw [this, ih _ (fun g hg => h g (List.mem_cons_of_mem _ hg))]
    simp
theorem fold_unput (d q : Int) (t o : List Fl) (h : ascends t) :
    (if (t.foldl (addStep d q) (o, false)).2 then (t.foldl (addStep d q) (o, false)).1 else (t.foldl (addStep d q) (o, false)).1 ++ [(d, q)]) = o ++ addS t d q := by
  induction t generalizing o with
  | nil => simp [addS]
  | cons f t ih =>
    rw [List.foldl_cons]
    have hh := ascends_head h
    by_cases h1 : d = f.1
    · have : addStep d q (o, false) f = (o ++ [(f.1, f.2 + q)], true) := by
        unfold addStep
        rw [if_pos h1]
        simp; omega
      rw [this, fold_put d q t _ (fun g hg => by have := hh g hg; omega)]
      simp [addS, h1]
    · by_cases h2 : d < f.1
      · have : addStep d q (o, false) f = (o ++ [(d, q)] ++ [f], true) := by
          unfold addStep
          rw [if_neg h1]
          simp [h2]
        rw [this, fold_put d q t _ (fun g hg => by have := hh g hg; omega)]
        simp [addS, show ¬ f.1 < d from by omega, show ¬ f.1 = d from by omega]
      · have : addStep d q (o, false) f = (o ++ [f], false) := by
          unfold addStep
          rw [if_neg h1]
          simp [h2]
        rw [this, ih _ (ascends_tail h)]
        simp [addS, show f.1 < d from by omega]
theorem addI_eq (l : List Fl) (d q : Int) (h : ascends l) : addI l d q = addS l d q := by
  unfold addI addTo
  rw [List.take_length, fold_unput d q l [] h]; simp
theorem addS_mem (l : List Fl) (d q : Int) : ∀ g ∈ addS l d q, g.1 = d ∨ ∃ f ∈ l, g.1 = f.1 := by
  induction l with
  | nil => intro g hg; simp [addS] at hg; left; rw [hg]
  | cons f t ih =>
    intro g hg
    simp only [addS] at hg
    split at hg
    · rcases List.mem_cons.1 hg with rfl | hg
      · exact .inr ⟨_, List.mem_cons_self, rfl⟩
      · rcases ih g hg with h | ⟨x, hx, h⟩
        · exact .inl h
        · exact .inr ⟨x, List.mem_cons_of_mem _ hx, h⟩
    · split at hg
      · rcases List.mem_cons.1 hg with rfl | hg
        · exact .inr ⟨f, List.mem_cons_self, rfl⟩
        · exact .inr ⟨g, List.mem_cons_of_mem _ hg, rfl⟩
      · rcases List.mem_cons.1 hg with rfl | hg
        · exact .inl rfl
        · exact .inr ⟨g, hg, rfl⟩
theorem addS_ascends (l : List Fl) (d q : Int) (h : ascends l) : ascends (addS l d q) := by
  induction l with
  | nil => intro i j hj hij; simp [addS] at hj; omega
  | cons f t ih =>
    have hh := ascends_head h
    have ht := ascends_tail h
    simp only [addS]
    split
    · rename_i h1
      refine ascends_cons (ih ht) (fun g hg => ?_)
      rcases addS_mem t d q g hg with h2 | ⟨x, hx, h2⟩
      · omega
      · have := hh x hx; omega
    · split
      · exact ascends_cons ht (fun g hg => hh g hg)
      · refine ascends_cons h (fun g hg => ?_)
        rcases List.mem_cons.1 hg with rfl | hg
        · omega
        · have := hh g hg; simp only; omega
theorem areFlows_ascends {l : List Fl} (h : areFlows l = true) : ascends l := by
  have hk := (areFlows_parts h).1
  have hstep : ∀ j (hj : j < l.length), 0 < j → (l[j - 1]'(by omega)).1 < l[j].1 := fun j hj h0 => by
    have := hk j hj
    simp only [okFlow, Bool.and_eq_true, Bool.or_eq_true, decide_eq_true_eq] at this
    rcases this.2.2 with h1 | h1
    · omega
    · rw [getD_at _ _ _ hj, getD_at _ _ _ (show j - 1 < l.length by omega)] at h1; exact h1
  intro i j hj hij
  induction j with
  | zero => omega
  | succ j ih =>
    have h1 := hstep (j + 1) hj (by omega)
    simp at h1
    rcases Nat.lt_or_ge i j with h2 | h2
    · have := ih (by omega) h2; omega
    · have : i = j := by omega
      subst this; exact h1
/-- Bounds on the quantities are kept. -/
theorem addS_bd (l : List Fl) (d q lo hi a b : Int) (h : ∀ f ∈ l, lo ≤ f.2 ∧ f.2 ≤ hi) (hq : a ≤ q ∧ q ≤ b) (ha : a ≤ 0) (hb : 0 ≤ b) (hlo : lo ≤ 0) (hhi : 0 ≤ hi) : ∀ f ∈ addS l d q, lo + a ≤ f.2 ∧ f.2 ≤ hi + b := by
  induction l with
  | nil => intro f hf; simp [addS] at hf; rw [hf]; simp only; omega
  | cons g t ih =>
    have hg := h g List.mem_cons_self
    have ht := ih (fun f hf => h f (List.mem_cons_of_mem _ hf))
    intro f hf
    simp only [addS] at hf
    split at hf
    · rcases List.mem_cons.1 hf with rfl | hf
      · omega
      · exact ht f hf
    · split at hf
      · rcases List.mem_cons.1 hf with rfl | hf
        · simp only; omega
        · have := h f (List.mem_cons_of_mem _ hf); omega
      · rcases List.mem_cons.1 hf with rfl | hf
        · simp only; omega
        · have := h f hf; omega
end Go.Proofs.Ytdofhdelcendeaa
