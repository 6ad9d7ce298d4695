/- What promises are: given for the first day that breaks no other one, kept together with them, and taken back. -/
import Derived.Test.YtdofhdelcendeaaPromiseNext
import Derived.Test.YtdofhdelcendeaaCancel
import Derived.Test.YtdofhdelcendeaaMergedPlain
namespace Go.Proofs.Ytdofhdelcendeaa
section
variable {sup prom : List Fl} {q : Int}
theorem firstOpen_facts (n : Nat) (d : Int) (h : (firstOpen sup prom q n d).2 = true) : d ≤ (firstOpen sup prom q n d).1 ∧ (firstOpen sup prom q n d).1 < d + n ∧ q ≤ openOn sup prom (firstOpen sup prom q n d).1 ∧ ∀ e, d ≤ e → e < (firstOpen sup prom q n d).1 → openOn sup prom e < q := by
  induction n generalizing d with
  | zero => simp [firstOpen] at h
  | succ n ih =>
    rw [firstOpen] at h ⊢
    by_cases hc : q ≤ openOn sup prom d
    · rw [if_pos hc]
      exact ⟨Int.le_refl _, by simp only; omega, hc, fun e h1 h2 => absurd h2 (by simp only; omega)⟩
    · rw [if_neg hc] at h ⊢
      obtain ⟨h1, h2, h3, h4⟩ := ih (d + 1) h
      refine ⟨by omega, by omega, h3, fun e e1 e2 => ?_⟩
      rcases Int.lt_or_le d e with h5 | h5
      · exact h4 e (by omega) e2
      · have : e = d := by omega
        rw [this]; omega
theorem promiseDay_facts {d : Int} (h : (promiseDay sup prom q d).2 = true) : isKept sup prom = true ∧ 1 ≤ q ∧ q ≤ 1000000000 ∧ 0 ≤ d ∧ d ≤ (promiseDay sup prom q d).1 ∧ (promiseDay sup prom q d).1 ≤ 999 ∧ q ≤ openOn sup prom (promiseDay sup prom q d).1 ∧ ∀ e, d ≤ e → e < (promiseDay sup prom q d).1 → openOn sup prom e < q := by
  unfold promiseDay at h ⊢
  split at h
  · rename_i hc
    rw [if_pos hc]
    simp only [Bool.and_eq_true, inB_iff] at hc
    obtain ⟨k1, k2, k3⟩ := hc
    obtain ⟨h1, h2, h3, h4⟩ := firstOpen_facts _ _ h
    exact ⟨k1, k2.1, k2.2, k3.1, h1, by omega, h3, h4⟩
  · simp at h
theorem promiseDay_zero {d : Int} (h : (promiseDay sup prom q d).2 = false) : (promiseDay sup prom q d).1 = 0 := by
  unfold promiseDay at h ⊢
  split at h
  · rename_i hc
    rw [if_pos hc]
    have : ∀ n d, (firstOpen sup prom q n d).2 = false → (firstOpen sup prom q n d).1 = 0 := by
      intro n
      induction n with
      | zero => intro d _; rfl
      | succ n ih =>
        intro d h
        rw [firstOpen] at h ⊢
        by_cases hc : q ≤ openOn sup prom d
        · rw [if_pos hc] at h; simp at h
        · rw [if_neg hc] at h ⊢; exact ih _ h
    exact this _ _ h
  · rename_i hc
    rw [if_neg hc]
/-- What is open is the least over that day and all later promises. -/
theorem openTo_le (d : Int) (k : Nat) (hk : k ≤ prom.length) : q ≤ openTo sup prom d k ↔ q ≤ flowUpTo sup d - flowUpTo prom d ∧ ∀ j (hj : j < prom.length), j < k → d < prom[j].1 → q ≤ flowUpTo sup prom[j].1 - flowUpTo prom prom[j].1 := by
  induction k with
  | zero => simp [openTo]
  | succ k ih =>
    have ih2 := ih (by omega)
    have hlt : k < prom.length := by omega
    rw [openTo_succ _ _ _ _ hlt]
    by_cases hd : d < prom[k].1
    · rw [if_pos hd]
      constructor
      · intro h
        obtain ⟨h1, h2⟩ := ih2.1 (by omega)
        refine ⟨h1, fun j hj hjk hd2 => ?_⟩
        rcases Nat.lt_or_ge j k with h3 | h3
        · exact h2 j hj h3 hd2
        · have : j = k := by omega
          subst this; omega
      · rintro ⟨h1, h2⟩
        have h3 := ih2.2 ⟨h1, fun j hj hjk => h2 j hj (by omega)⟩
        have h4 := h2 k hlt (by omega) hd
        omega
    · rw [if_neg hd, ih2]
      constructor
      · rintro ⟨h1, h2⟩
        refine ⟨h1, fun j hj hjk hd2 => ?_⟩
        rcases Nat.lt_or_ge j k with h3 | h3
        · exact h2 j hj h3 hd2
        · have : j = k := by omega
          subst this; exact absurd hd2 hd
      · rintro ⟨h1, h2⟩
        exact ⟨h1, fun j hj hjk => h2 j hj (by omega)⟩
theorem addS_has (l : List Fl) (d x : Int) : (∃ g ∈ addS l d x, g.1 = d) ∧ ∀ f ∈ l, ∃ g ∈ addS l d x, g.1 = f.1 := by
  induction l with
  | nil => exact ⟨⟨(d, x), by simp [addS], rfl⟩, fun f hf => by simp at hf⟩
  | cons f t ih =>
    simp only [addS]
    split
    · obtain ⟨⟨g, hg, e⟩, h2⟩ := ih
      refine ⟨⟨g, List.mem_cons_of_mem _ hg, e⟩, fun y hy => ?_⟩
      rcases List.mem_cons.1 hy with rfl | hy
      · exact ⟨_, List.mem_cons_self, rfl⟩
      · obtain ⟨z, hz, e2⟩ := h2 y hy
        exact ⟨z, List.mem_cons_of_mem _ hz, e2⟩
    · split
      · rename_i h1 h2
        refine ⟨⟨(f.1, f.2 + x), List.mem_cons_self, h2⟩, fun y hy => ?_⟩
        rcases List.mem_cons.1 hy with rfl | hy
        · exact ⟨_, List.mem_cons_self, rfl⟩
        · exact ⟨y, List.mem_cons_of_mem _ hy, rfl⟩
      · exact ⟨⟨(d, x), List.mem_cons_self, rfl⟩, fun y hy => ⟨y, List.mem_cons_of_mem _ hy, rfl⟩⟩
theorem isKept_each (h : isKept sup prom = true) : ∀ f ∈ prom, flowUpTo prom f.1 ≤ flowUpTo sup f.1 := by
  unfold isKept at h
  simp only [Bool.and_eq_true, List.all_eq_true, List.mem_range, decide_eq_true_eq] at h
  intro f hf
  obtain ⟨j, hj, rfl⟩ := List.getElem_of_mem hf
  have := h.2.2 j hj
  rw [getD_at _ _ _ hj] at this
  exact this
theorem isKept_bad {f : Fl} (hf : f ∈ prom) (h : flowUpTo sup f.1 < flowUpTo prom f.1) : isKept sup prom = false := by
  cases hc : isKept sup prom
  · rfl
  · have := isKept_each hc f hf; omega
theorem mergeFlows_one {d : Int} {m : List Fl} (h : mergeFlows prom [(d, q)] = (m, true)) : m = addS prom d q ∧ areFlows m = true ∧ areFlows prom = true := by
  have h1 : areFlows m = true := by have := mergeFlows_flows prom [(d, q)]; rw [h] at this; exact this
  unfold mergeFlows at h
  split at h
  · rename_i hc
    simp only [Bool.and_eq_true] at hc
    simp only [Prod.mk.injEq, and_true] at h
    exact ⟨by rw [← h]; rfl, h1, hc.1.1⟩
  · simp at h
/-- An earlier promise would break one. -/
theorem promise_early {d e : Int} (h : (promiseDay sup prom q d).2 = true) (h1 : d ≤ e) (h2 : e < (promiseDay sup prom q d).1) {m : List Fl} (hm : mergeFlows prom [(e, q)] = (m, true)) : isKept sup m = false := by
  obtain ⟨k1, q1, _, d0, _, d9, _, hall⟩ := promiseDay_facts h
  obtain ⟨rfl, hmf, hp⟩ := mergeFlows_one hm
  have ho := hall e h1 h2
  rw [openOn_yes k1 (inB_iff.2 ⟨by omega, by omega⟩)] at ho
  have hn : ¬ q ≤ openTo sup prom e prom.length := by omega
  rw [openTo_le e prom.length (Nat.le_refl _)] at hn
  have hup : ∀ x : Int, e ≤ x → flowUpTo (addS prom e q) x = flowUpTo prom x + q := fun x hx => by
    rw [flowUpTo_yes hmf, flowUpTo_yes hp, upTo_addS, if_pos hx]
  by_cases hb : q ≤ flowUpTo sup e - flowUpTo prom e
  · have : ∃ j, ∃ hj : j < prom.length, e < prom[j].1 ∧ flowUpTo sup prom[j].1 - flowUpTo prom prom[j].1 < q := by
      apply Classical.byContradiction
      intro hne
      apply hn
      refine ⟨hb, fun j hj _ hd => ?_⟩
      apply Classical.byContradiction
      intro h3
      exact hne ⟨j, hj, hd, by omega⟩
    obtain ⟨j, hj, h3, h4⟩ := this
    obtain ⟨g, hg, e2⟩ := (addS_has prom e q).2 _ (List.getElem_mem hj)
    refine isKept_bad hg ?_
    rw [e2, hup _ (by omega)]; omega
  · obtain ⟨g, hg, e2⟩ := (addS_has prom e q).1
    refine isKept_bad hg ?_
    rw [e2, hup _ (Int.le_refl _)]; omega
theorem promiseNext_all {d : Int} {m : List Fl} (h : promiseNext sup prom q d = (m, true)) : (promiseDay sup prom q d).2 = true ∧ m = addS prom (promiseDay sup prom q d).1 q ∧ areFlows m = true := by
  unfold promiseNext at h
  split at h
  · rename_i hc
    simp only [Bool.and_eq_true] at hc
    simp only [Prod.mk.injEq, and_true] at h
    exact ⟨hc.1, h.symm, by rw [← h]; exact hc.2⟩
  · simp at h
theorem promise_kept {d : Int} {m : List Fl} (h : promiseNext sup prom q d = (m, true)) : isKept sup m = true := by
  obtain ⟨h1, rfl, hf⟩ := promiseNext_all h
  obtain ⟨k1, q1, _, d0, d1, d9, ho, _⟩ := promiseDay_facts h1
  generalize (promiseDay sup prom q d).1 = day at *
  obtain ⟨hs, hp⟩ := isKept_parts k1
  rw [openOn_yes k1 (inB_iff.2 ⟨by omega, by omega⟩), openTo_le day prom.length (Nat.le_refl _)] at ho
  refine isKept_yes hs hf (fun j hj => ?_)
  have hmem := List.getElem_mem hj
  generalize (addS prom day q)[j] = f at *
  have hup : flowUpTo (addS prom day q) f.1 = flowUpTo prom f.1 + if day ≤ f.1 then q else 0 := by
    rw [flowUpTo_yes hf, flowUpTo_yes hp, upTo_addS]
  rw [hup]
  rcases addS_mem prom day q f hmem with h2 | ⟨g, hg, h2⟩
  · rw [h2, if_pos (Int.le_refl _)]; omega
  · have h3 := isKept_each k1 g hg
    rw [h2]
    by_cases hd : day ≤ g.1
    · rw [if_pos hd]
      obtain ⟨i, hi, rfl⟩ := List.getElem_of_mem hg
      rcases Int.lt_or_le day prom[i].1 with h4 | h4
      · have := ho.2 i hi hi h4; omega
      · have : prom[i].1 = day := by omega
        rw [this]; omega
    · rw [if_neg hd]; omega
theorem cancel_far (d x : Int) (l o : List Fl) (b : Bool) (h : ∀ f ∈ l, f.1 ≠ d ∧ 1 ≤ f.2) : l.foldl (cancelStep d x) (o, b) = (o ++ l, b) := by
  induction l generalizing o with
  | nil => simp
  | cons f t ih =>
    obtain ⟨h1, h2⟩ := h f List.mem_cons_self
    have e : (f.1 == d) = false := by rw [beq_eq_false_iff_ne]; exact h1
    rw [List.foldl_cons]
    have : cancelStep d x (o, b) f = (o ++ [f], b) := by
      unfold cancelStep
      rw [e, Bool.false_and, if_neg (by simp), if_pos (show 0 < f.2 by omega)]
    rw [this, ih _ (fun g hg => h g (List.mem_cons_of_mem _ hg))]
    simp
theorem cancel_add (d x : Int) (hx : 1 ≤ x) (l o : List Fl) (b : Bool) (ha : ascends l) (hq : ∀ f ∈ l, 1 ≤ f.2) : (addS l d x).foldl (cancelStep d x) (o, b) = (o ++ l, true) := by
  have hself : ∀ o b y, x ≤ y → cancelStep d x (o, b) (d, y) = (if 0 < y - x then o ++ [(d, y - x)] else o, true) := fun o b y hy => by
    unfold cancelStep
    have e : (d == d) = true := by simp
    rw [e, inB_iff.2 ⟨hx, hy⟩]
    rfl
  induction l generalizing o b with
  | nil =>
    simp only [addS, List.foldl_cons, List.foldl_nil]
    rw [hself o b x (Int.le_refl _), if_neg (by omega)]
    simp
  | cons f t ih =>
    have hf := hq f List.mem_cons_self
    have hh := ascends_head ha
    have ht := fun g hg => hq g (List.mem_cons_of_mem f hg)
    simp only [addS]
    split
    · rename_i h1
      rw [List.foldl_cons]
      have e : (f.1 == d) = false := by rw [beq_eq_false_iff_ne]; omega
      have : cancelStep d x (o, b) f = (o ++ [f], b) := by
        unfold cancelStep
        rw [e, Bool.false_and, if_neg (by simp), if_pos (show 0 < f.2 by omega)]
      rw [this, ih _ _ (ascends_tail ha) ht]
      simp
    · split
      · rename_i h1 h2
        rw [List.foldl_cons, h2, hself o b (f.2 + x) (by omega), if_pos (by omega), cancel_far d x t _ true (fun g hg => ⟨by have := hh g hg; omega, ht g hg⟩)]
        have : (d, f.2 + x - x) = f := Prod.ext h2.symm (by simp only; omega)
        rw [this]; simp
      · rename_i h1 h2
        rw [List.foldl_cons, hself o b x (Int.le_refl _), if_neg (by omega), cancel_far d x (f :: t) _ true (fun g hg => ?_)]
        refine ⟨?_, hq g hg⟩
        rcases List.mem_cons.1 hg with rfl | hg
        · omega
        · have := hh g hg; omega
theorem promise_back {d : Int} {m : List Fl} (h : promiseNext sup prom q d = (m, true)) : cancelPromise m (promiseDay sup prom q d).1 q = (prom, true) := by
  obtain ⟨h1, rfl, hf⟩ := promiseNext_all h
  obtain ⟨k1, q1, _⟩ := promiseDay_facts h1
  have hp := (isKept_parts k1).2
  have hc : cancelTo (addS prom (promiseDay sup prom q d).1 q) (promiseDay sup prom q d).1 q (addS prom (promiseDay sup prom q d).1 q).length = (prom, true) := by
    unfold cancelTo
    rw [List.take_length, cancel_add _ q q1 prom [] false (areFlows_ascends hp) (fun f hf => (areFlows_mem hp f hf).2.1)]
    simp
  rw [cancelPromise_yes hf (by rw [hc]), hc]
end
end Go.Proofs.Ytdofhdelcendeaa
