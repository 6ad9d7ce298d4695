/- What merged flows are: the sums of both up to every day, whichever comes first. -/
import Derived.Test.YtdofhdelcendeaaMerge
namespace Go.Proofs.Ytdofhdelcendeaa

theorem upTo_addS (l : List Fl) (d q e : Int) : upTo (addS l d q) e = upTo l e + if d ≤ e then q else 0 := by
  induction l with
  | nil => simp [addS, upTo]
  | cons f t ih =>
    simp only [addS]
    split
    · simp only [upTo, ih]; omega
    · split
      · rename_i h1 h2
        subst h2
        simp only [upTo]
        split <;> omega
      · simp only [upTo]; omega
theorem upTo_mergeTo (a b : List Fl) (k : Nat) (e : Int) (hk : k ≤ b.length) : upTo (mergeTo a b k) e = upTo a e + upTo (b.take k) e := by
  induction k with
  | zero => simp [mergeTo, upTo]
  | succ k ih =>
    rw [mergeTo_succ a b k (by omega), upTo_addS, ih (by omega), upTo_take b e k (by omega)]
    omega
theorem addS_pos (l : List Fl) (d q : Int) (h : ∀ f ∈ l, 1 ≤ f.2) (hq : 1 ≤ q) : ∀ f ∈ addS l d q, 1 ≤ f.2 := by
  induction l with
  | nil => intro f hf; simp [addS] at hf; rw [hf]; exact hq
  | cons g t ih =>
    have hg := h g List.mem_cons_self
    have ht := ih (fun f hf => h f (List.mem_cons_of_mem _ hf))
    intro f hf
    simp only [addS] at hf
    split at hf
    · rcases List.mem_cons.1 hf with rfl | hf
      · exact hg
      · exact ht f hf
    · split at hf
      · rcases List.mem_cons.1 hf with rfl | hf
        · simp only; omega
        · exact h f (List.mem_cons_of_mem _ hf)
      · rcases List.mem_cons.1 hf with rfl | hf
        · exact hq
        · exact h f hf
theorem mergeTo_pos (a b : List Fl) (ha : areFlows a = true) (hb : areFlows b = true) (k : Nat) (hk : k ≤ b.length) : ∀ f ∈ mergeTo a b k, 1 ≤ f.2 := by
  induction k with
  | zero => intro f hf; exact (areFlows_mem ha f hf).2.1
  | succ k ih =>
    rw [mergeTo_succ a b k (by omega)]
    exact addS_pos _ _ _ (ih (by omega)) (areFlows_mem hb _ (List.getElem_mem (by omega))).2.1
theorem upTo_late (l : List Fl) (e : Int) (h : ∀ f ∈ l, e < f.1) : upTo l e = 0 := by
  induction l with
  | nil => rfl
  | cons f t ih =>
    have h0 := h f List.mem_cons_self
    have h1 := ih (fun g hg => h g (List.mem_cons_of_mem _ hg))
    simp only [upTo]
    rw [if_neg (by omega), h1]; omega
theorem upTo_nonneg (l : List Fl) (e : Int) (h : ∀ f ∈ l, 1 ≤ f.2) : 0 ≤ upTo l e := by
  induction l with
  | nil => simp [upTo]
  | cons f t ih =>
    have h0 := h f List.mem_cons_self
    have h1 := ih (fun g hg => h g (List.mem_cons_of_mem _ hg))
    simp only [upTo]
    split <;> omega
/-- Flows in ascending order are known by what they bring up to each day. -/
theorem canon (l m : List Fl) (hl : ascends l) (hm : ascends m) (pl : ∀ f ∈ l, 1 ≤ f.2) (pm : ∀ f ∈ m, 1 ≤ f.2) (h : ∀ e, upTo l e = upTo m e) : l = m := by
  induction l generalizing m with
  | nil =>
    cases m with
    | nil => rfl
    | cons g s =>
      have h1 := h g.1
      have h2 := pm g List.mem_cons_self
      have h3 := upTo_nonneg s g.1 (fun f hf => pm f (List.mem_cons_of_mem _ hf))
      simp only [upTo, if_pos (Int.le_refl _)] at h1
      omega
  | cons f t ih =>
    have pf := pl f List.mem_cons_self
    have pt := fun x hx => pl x (List.mem_cons_of_mem f hx)
    have hf := ascends_head hl
    cases m with
    | nil =>
      have h1 := h f.1
      have h3 := upTo_nonneg t f.1 pt
      simp only [upTo, if_pos (Int.le_refl _)] at h1
      omega
    | cons g s =>
      have pg := pm g List.mem_cons_self
      have ps := fun x hx => pm x (List.mem_cons_of_mem g hx)
      have hg := ascends_head hm
      have e1 := h f.1
      have e2 := h g.1
      simp only [upTo] at e1 e2
      rw [if_pos (Int.le_refl _), upTo_late t f.1 hf] at e1
      rw [if_pos (Int.le_refl _), upTo_late s g.1 hg] at e2
      have n1 := upTo_nonneg s f.1 ps
      have n2 := upTo_nonneg t g.1 pt
      have hd : f.1 = g.1 := by
        rcases Int.lt_trichotomy f.1 g.1 with h1 | h1 | h1
        · rw [if_neg (by omega), upTo_late s f.1 (fun x hx => by have := hg x hx; omega)] at e1
          omega
        · exact h1
        · rw [if_neg (by omega), upTo_late t g.1 (fun x hx => by have := hf x hx; omega)] at e2
          omega
      rw [if_pos (by omega), hd, upTo_late s g.1 hg] at e1
      have hfg : f = g := Prod.ext hd (by omega)
      subst hfg
      rw [ih s (ascends_tail hl) (ascends_tail hm) pt ps (fun e => by
        have := h e
        simp only [upTo] at this
        omega)]
theorem mergeTo_comm (a b : List Fl) (ha : areFlows a = true) (hb : areFlows b = true) : mergeTo a b b.length = mergeTo b a a.length := by
  refine canon _ _ (mergeTo_parts a b ha hb _ (Nat.le_refl _)).1 (mergeTo_parts b a hb ha _ (Nat.le_refl _)).1 (mergeTo_pos a b ha hb _ (Nat.le_refl _)) (mergeTo_pos b a hb ha _ (Nat.le_refl _)) (fun e => ?_)
  rw [upTo_mergeTo a b _ e (Nat.le_refl _), upTo_mergeTo b a _ e (Nat.le_refl _), List.take_length, List.take_length]
  omega
theorem mergeFlows_comm (a b : List Fl) : mergeFlows a b = mergeFlows b a := by
  unfold mergeFlows
  cases ha : areFlows a <;> cases hb : areFlows b <;> simp
  rw [mergeTo_comm a b ha hb]
theorem mergeFlows_upTo {a b : List Fl} (h : (mergeFlows a b).2 = true) (e : Int) : flowUpTo (mergeFlows a b).1 e = flowUpTo a e + flowUpTo b e := by
  rw [flowUpTo_yes (mergeFlows_flows a b)]
  unfold mergeFlows at h ⊢
  split at h
  · rename_i hc
    rw [if_pos hc]
    simp only [Bool.and_eq_true] at hc
    rw [flowUpTo_yes hc.1.1, flowUpTo_yes hc.1.2, upTo_mergeTo _ _ _ _ (Nat.le_refl _), List.take_length]
  · simp at h
theorem mergeFlows_nil {a b : List Fl} (h : (mergeFlows a b).2 = false) : (mergeFlows a b).1 = [] := by
  unfold mergeFlows at h ⊢
  split at h
  · simp at h
  · rename_i hc
    rw [if_neg hc]
end Go.Proofs.Ytdofhdelcendeaa
