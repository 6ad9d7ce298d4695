/- Plain law: no schedule ends before the bound of all work. -/
import Derived.Test.YtmkfinahbelpdaaWorkPlain
import Derived.Test.YtmkfinahbelpdaaMakespan
namespace Go.Proofs.Ytmkfinahbelpdaa
open Go.RowKit
/-! Numbers below N, each at most once. -/
theorem nodup_len (N : Nat) : ∀ l : List Nat, l.Nodup → (∀ x ∈ l, x < N) → l.length ≤ N := by
  induction N with
  | zero =>
    intro l _ h
    cases l with
    | nil => exact Nat.le_refl _
    | cons a t => exact absurd (h a (by simp)) (by omega)
  | succ N ih =>
    intro l hn h
    by_cases hm : N ∈ l
    · have h1 := ih (l.erase N) (hn.erase N) (fun x hx => by
        have h2 := (hn.mem_erase_iff).1 hx
        have := h x h2.2
        have := h2.1
        omega)
      rw [List.length_erase_of_mem hm] at h1
      omega
    · have h1 := ih l hn (fun x hx => by
        have := h x hx
        have h2 : x ≠ N := fun e => hm (e ▸ hx)
        omega)
      omega
theorem nodup_all {N : Nat} {l : List Nat} (hn : l.Nodup) (h : ∀ x ∈ l, x < N) (hl : l.length = N) {x : Nat} (hx : x < N) : x ∈ l := by
  by_cases hm : x ∈ l
  · exact hm
  · have := nodup_len N (x :: l) (List.nodup_cons.2 ⟨hm, hn⟩) (fun y hy => by
      rcases List.mem_cons.1 hy with rfl | hy
      · exact hx
      · exact h y hy)
    simp at this; omega
/-! Intervals that do not meet. -/
def Apart (p q : Int × Int) : Prop := p.2 ≤ q.1 ∨ q.2 ≤ p.1
def lenS : List (Int × Int) → Int
  | [] => 0
  | p :: t => (p.2 - p.1) + lenS t
theorem lenS_append (a b : List (Int × Int)) : lenS (a ++ b) = lenS a + lenS b := by
  induction a with
  | nil => simp [lenS]
  | cons p t ih => simp only [List.cons_append, lenS, ih]; omega
theorem lenS_split (f : Int × Int → Bool) (l : List (Int × Int)) : lenS l = lenS (l.filter f) + lenS (l.filter (fun p => !f p)) := by
  induction l with
  | nil => rfl
  | cons p t ih =>
    cases hf : f p
    · simp only [List.filter_cons, hf, Bool.not_false, lenS, if_true, Bool.false_eq_true, if_false]; omega
    · simp only [List.filter_cons, hf, Bool.not_true, lenS, if_true, Bool.false_eq_true, if_false]; omega
theorem pack (k : Nat) : ∀ (l : List (Int × Int)) (h M : Int), l.length ≤ k → h ≤ M → (∀ p ∈ l, h ≤ p.1 ∧ p.1 < p.2 ∧ p.2 ≤ M) → l.Pairwise Apart → lenS l ≤ M - h := by
  induction k with
  | zero =>
    intro l h M hl hM _ _
    have : l = [] := List.eq_nil_of_length_eq_zero (by omega)
    subst this; simp only [lenS]; omega
  | succ k ih =>
    intro l h M hl hM hb hp
    cases l with
    | nil => simp only [lenS]; omega
    | cons x t =>
      obtain ⟨hx, ht⟩ := List.pairwise_cons.1 hp
      have bx := hb x (by simp)
      have h1 := ih (t.filter (fun p => decide (p.2 ≤ x.1))) h x.1 (by have := List.length_filter_le (fun p : Int × Int => decide (p.2 ≤ x.1)) t; simp at hl; omega) bx.1 (fun p hp => by
        have hm := List.mem_filter.1 hp
        have := hb p (by simp [hm.1])
        have h2 := of_decide_eq_true hm.2
        omega) (ht.sublist List.filter_sublist)
      have h2 := ih (t.filter (fun p => !decide (p.2 ≤ x.1))) x.2 M (by have := List.length_filter_le (fun p : Int × Int => !decide (p.2 ≤ x.1)) t; simp at hl; omega) bx.2.2 (fun p hp => by
        have hm := List.mem_filter.1 hp
        have := hb p (by simp [hm.1])
        have h2 : ¬ p.2 ≤ x.1 := by simpa using hm.2
        have h3 := hx p hm.1
        unfold Apart at h3
        omega) (ht.sublist List.filter_sublist)
      have h3 := lenS_split (fun p => decide (p.2 ≤ x.1)) t
      simp only [lenS]
      omega
/-! A schedule's slots. -/
theorem stepsTo_next {jobs : List Jb} {a : Nat} (ha : a < jobs.length) : stepsTo jobs (a + 1) = stepsTo jobs a + jobs[a].2.2.length := by
  simp only [stepsTo]; rw [jb_getD _ _ ha]
theorem stepsTo_mono (jobs : List Jb) (a d : Nat) : stepsTo jobs a ≤ stepsTo jobs (a + d) := by
  induction d with
  | zero => exact Nat.le_refl _
  | succ d ih => rw [show a + (d + 1) = (a + d) + 1 by omega]; simp only [stepsTo]; omega
theorem stepsTo_inj {jobs : List Jb} {a b i k : Nat} (ha : a < jobs.length) (hb : b < jobs.length) (hi : i < jobs[a].2.2.length) (hk : k < jobs[b].2.2.length) (h : stepsTo jobs a + i = stepsTo jobs b + k) : a = b ∧ i = k := by
  have h1 := stepsTo_next ha
  have h2 := stepsTo_next hb
  rcases Nat.lt_trichotomy a b with h3 | h3 | h3
  · have := stepsTo_mono jobs (a + 1) (b - (a + 1))
    rw [show a + 1 + (b - (a + 1)) = b by omega] at this
    omega
  · subst h3; exact ⟨rfl, by omega⟩
  · have := stepsTo_mono jobs (b + 1) (a - (b + 1))
    rw [show b + 1 + (a - (b + 1)) = a by omega] at this
    omega
/-- What a slot of a schedule is. -/
structure SlotOk (jobs : List Jb) (x : Slt) (a b : Nat) : Prop where
  ha : a < jobs.length
  hb : b < jobs[a].2.2.length
  job : x.1 = (a : Int)
  step : x.2.1 = (b : Int)
  start : jobs[a].1 ≤ x.2.2.2.1
  center : (x.2.2.1.toList == jobs[a].2.2[b].1.toList) = true
  stop : x.2.2.2.2 = x.2.2.2.1 + jobs[a].2.2[b].2
theorem slot_ok {jobs : List Jb} {slots : List Slt} (h : ∀ i < slots.length, okSl jobs slots i = true) {i : Nat} (hi : i < slots.length) : ∃ a b, SlotOk jobs slots[i] a b := by
  have h1 := h i hi
  unfold okSl at h1
  rw [sl_getD _ _ hi] at h1
  simp only [Bool.and_eq_true] at h1
  have h2 := h1.1
  unfold fit at h2
  simp only [Bool.and_eq_true, inB_iff, decide_eq_true_eq] at h2
  obtain ⟨⟨a1, a2⟩, ⟨a3, a4⟩, ⟨a5, _⟩, a7, a8⟩ := h2
  have hj : slots[i].1.toNat < jobs.length := by omega
  have e1 : jobOf jobs slots[i] = jobs[slots[i].1.toNat] := by unfold jobOf; rw [jb_getD _ _ hj]
  rw [e1] at a4 a5
  have hs : slots[i].2.1.toNat < jobs[slots[i].1.toNat].2.2.length := by omega
  have e2 : workOf jobs slots[i] = jobs[slots[i].1.toNat].2.2[slots[i].2.1.toNat] := by unfold workOf; rw [e1, wk_getD _ _ hs]
  rw [e2] at a7 a8
  exact ⟨_, _, hj, hs, by omega, by omega, a5, a7, a8⟩
theorem slot_far {jobs : List Jb} {slots : List Slt} (h : ∀ i < slots.length, okSl jobs slots i = true) {i k : Nat} (hi : i < slots.length) (hk : k < i) : clashJ slots[i] (slots[k]'(by omega)) = false ∧ clashC slots[i] (slots[k]'(by omega)) = false := by
  have h1 := h i hi
  unfold okSl at h1
  simp only [Bool.and_eq_true, List.all_eq_true, List.mem_range] at h1
  have h2 := h1.2 k hk
  rw [sl_getD _ _ hi, sl_getD _ _ (by omega)] at h2
  simp only [Bool.not_eq_true'] at h2
  exact h2
theorem clash_parts {x y : Slt} (h : clashJ x y = false ∧ clashC x y = false) :
    (y.1 = x.1 → ¬ y.2.1 = x.2.1 ∧ (y.2.1 < x.2.1 → y.2.2.2.2 ≤ x.2.2.2.1) ∧ (x.2.1 < y.2.1 → x.2.2.2.2 ≤ y.2.2.2.1)) ∧ ((y.2.2.1.toList == x.2.2.1.toList) = true → y.2.2.2.2 ≤ x.2.2.2.1 ∨ x.2.2.2.2 ≤ y.2.2.2.1) := by
  obtain ⟨h1, h2⟩ := h
  constructor
  · intro hj
    rw [Bool.eq_false_iff] at h1
    simp only [clashJ, ne_eq, Bool.and_eq_true, Bool.or_eq_true, decide_eq_true_eq] at h1
    refine ⟨fun he => h1 ⟨hj, .inl (.inl he)⟩, fun hlt => ?_, fun hlt => ?_⟩
    · have : ¬ x.2.2.2.1 < y.2.2.2.2 := fun hh => h1 ⟨hj, .inl (.inr ⟨hlt, hh⟩)⟩
      omega
    · have : ¬ y.2.2.2.1 < x.2.2.2.2 := fun hh => h1 ⟨hj, .inr ⟨hlt, hh⟩⟩
      omega
  · intro hc
    rw [Bool.eq_false_iff] at h2
    simp only [clashC, ne_eq, Bool.and_eq_true, decide_eq_true_eq] at h2
    by_cases h3 : x.2.2.2.1 < y.2.2.2.2
    · have : ¬ y.2.2.2.1 < x.2.2.2.2 := fun hh => h2 ⟨hc, h3, hh⟩
      omega
    · omega
/-- Two slots of a schedule, whichever comes first. -/
theorem slots_two {jobs : List Jb} {slots : List Slt} (h : ∀ i < slots.length, okSl jobs slots i = true) {i k : Nat} (hi : i < slots.length) (hk : k < slots.length) (hne : i ≠ k) :
    (slots[k].1 = slots[i].1 → ¬ slots[k].2.1 = slots[i].2.1 ∧ (slots[k].2.1 < slots[i].2.1 → slots[k].2.2.2.2 ≤ slots[i].2.2.2.1)) ∧ ((slots[k].2.2.1.toList == slots[i].2.2.1.toList) = true → slots[k].2.2.2.2 ≤ slots[i].2.2.2.1 ∨ slots[i].2.2.2.2 ≤ slots[k].2.2.2.1) := by
  rcases Nat.lt_or_ge k i with h1 | h1
  · obtain ⟨c1, c2⟩ := clash_parts (slot_far h hi h1)
    exact ⟨fun hj => ⟨(c1 hj).1, (c1 hj).2.1⟩, c2⟩
  · obtain ⟨c1, c2⟩ := clash_parts (slot_far h hk (show i < k by omega))
    refine ⟨fun hj => ⟨fun e => (c1 hj.symm).1 e.symm, fun hlt => (c1 hj.symm).2.2 hlt⟩, fun hc => ?_⟩
    have hc2 : (slots[i].2.2.1.toList == slots[k].2.2.1.toList) = true := by rw [← hc]; exact BEq.comm
    rcases c2 hc2 with h3 | h3
    · exact .inr h3
    · exact .inl h3
theorem makespan_ge (l : List Slt) (i : Nat) (hi : i < l.length) : l[i].2.2.2.2 ≤ makespanOf l := by
  have key : ∀ k, k ≤ l.length → ∀ j (hj : j < l.length), j < k → l[j].2.2.2.2 ≤ makespanTo l k := by
    intro k
    induction k with
    | zero => intro _ j _ h; omega
    | succ k ih =>
      intro hk j hj hjk
      rw [makespanTo_succ _ _ (by omega)]
      rcases Nat.lt_or_ge j k with h1 | h1
      · have := ih (by omega) j hj h1; omega
      · obtain rfl : j = k := by omega
        omega
  exact key _ (Nat.le_refl _) i hi hi
theorem makespan_nonneg (l : List Slt) : 0 ≤ makespanOf l := by
  have key : ∀ k, k ≤ l.length → 0 ≤ makespanTo l k := by
    intro k
    induction k with
    | zero => intro _; simp [makespanTo]
    | succ k ih => intro hk; rw [makespanTo_succ _ _ (by omega)]; have := ih (by omega); omega
  exact key _ (Nat.le_refl _)
/-- Every step of every job has its slot. -/
theorem slot_of {jobs : List Jb} {slots : List Slt} (hs : isSched jobs slots = true) {a b : Nat} (ha : a < jobs.length) (hb : b < jobs[a].2.2.length) : ∃ i, ∃ hi : i < slots.length, SlotOk jobs slots[i] a b := by
  simp only [isSched, Bool.and_eq_true, decide_eq_true_eq, List.all_eq_true, List.mem_range] at hs
  obtain ⟨_, hl, hok⟩ := hs
  have hf : ∀ i (hi : i < slots.length), ∃ n, ∃ a b, SlotOk jobs slots[i] a b ∧ n = stepsTo jobs a + b := fun i hi => by
    obtain ⟨a, b, h⟩ := slot_ok hok hi
    exact ⟨_, a, b, h, rfl⟩
  let f : Nat → Nat := fun i => if hi : i < slots.length then Classical.choose (hf i hi) else 0
  have hfs : ∀ i (hi : i < slots.length), ∃ a b, SlotOk jobs slots[i] a b ∧ f i = stepsTo jobs a + b := fun i hi => by
    have := Classical.choose_spec (hf i hi)
    simp only [f, dif_pos hi]; exact this
  have hinj : ∀ i k, i < slots.length → k < slots.length → i ≠ k → f i ≠ f k := fun i k hi hk hne he => by
    obtain ⟨a1, b1, s1, e1⟩ := hfs i hi
    obtain ⟨a2, b2, s2, e2⟩ := hfs k hk
    obtain ⟨rfl, rfl⟩ := stepsTo_inj s1.ha s2.ha s1.hb s2.hb (by omega)
    have := ((slots_two hok hi hk hne).1 (by rw [s1.job, s2.job])).1
    exact this (by rw [s1.step, s2.step])
  have hnd : ((List.range slots.length).map f).Nodup := by
    rw [List.Nodup, List.pairwise_map]
    refine List.Pairwise.imp_of_mem (fun {i k} hi hk hne => hinj i k (by simpa using hi) (by simpa using hk) hne) List.nodup_range
  have hlt : stepsTo jobs a + b < slots.length := by
    rw [hl]
    have h1 := stepsTo_next ha
    have h2 := stepsTo_mono jobs (a + 1) (jobs.length - (a + 1))
    rw [show a + 1 + (jobs.length - (a + 1)) = jobs.length by omega] at h2
    omega
  have hmem := nodup_all hnd (fun x hx => by
    obtain ⟨i, hi, rfl⟩ := List.mem_map.1 hx
    have hi2 : i < slots.length := by simpa using hi
    obtain ⟨a1, b1, s1, e1⟩ := hfs i hi2
    rw [e1, hl]
    have h1 := stepsTo_next s1.ha
    have h2 := stepsTo_mono jobs (a1 + 1) (jobs.length - (a1 + 1))
    rw [show a1 + 1 + (jobs.length - (a1 + 1)) = jobs.length by have := s1.ha; omega] at h2
    have := s1.hb
    omega) (by simp) hlt
  obtain ⟨i, hi, he⟩ := List.mem_map.1 hmem
  have hi2 : i < slots.length := by simpa using hi
  obtain ⟨a1, b1, s1, e1⟩ := hfs i hi2
  obtain ⟨rfl, rfl⟩ := stepsTo_inj s1.ha ha s1.hb hb (by omega)
  exact ⟨i, hi2, s1⟩
/-- A step begins not before its job's release and the steps before it. -/
theorem start_ge {jobs : List Jb} {slots : List Slt} (hs : isSched jobs slots = true) {a : Nat} (b : Nat) : ∀ i (hi : i < slots.length), SlotOk jobs slots[i] a b → (jobs.getD a jbNone).1 + beforeN (jobs.getD a jbNone).2.2 b ≤ slots[i].2.2.2.1 := by
  have hok : ∀ i < slots.length, okSl jobs slots i = true := by
    simp only [isSched, Bool.and_eq_true, decide_eq_true_eq, List.all_eq_true, List.mem_range] at hs
    exact hs.2.2
  induction b with
  | zero =>
    intro i hi s
    rw [jb_getD _ _ s.ha]
    have := s.start
    simp only [beforeN]; omega
  | succ b ih =>
    intro i hi s
    have sa := s.ha
    have sb := s.hb
    obtain ⟨k, hk, t⟩ := slot_of hs sa (show b < jobs[a].2.2.length by omega)
    have h1 := ih k hk t
    rw [jb_getD _ _ s.ha] at h1 ⊢
    have hne : i ≠ k := by
      intro e
      subst e
      have := s.step.symm.trans t.step
      omega
    have h2 := ((slots_two hok hi hk hne).1 (by rw [s.job, t.job])).2 (by rw [s.step, t.step]; omega)
    have h3 := t.stop
    simp only [beforeN]
    rw [wk_getD _ _ t.hb]
    omega
theorem way_le {jobs : List Jb} {slots : List Slt} (hs : isSched jobs slots = true) {a : Nat} (ha : a < jobs.length) (hpos : 0 < jobs[a].2.2.length) : jobs[a].1 + leftN jobs[a].2.2 0 ≤ makespanOf slots := by
  obtain ⟨i, hi, s⟩ := slot_of hs ha (show jobs[a].2.2.length - 1 < jobs[a].2.2.length by omega)
  have h1 := start_ge hs _ i hi s
  rw [jb_getD _ _ ha] at h1
  have h2 := makespan_ge slots i hi
  have h3 := s.stop
  have h4 : beforeN jobs[a].2.2 jobs[a].2.2.length = beforeN jobs[a].2.2 (jobs[a].2.2.length - 1) + jobs[a].2.2[jobs[a].2.2.length - 1].2 := by
    obtain ⟨m, hm⟩ : ∃ m, jobs[a].2.2.length = m + 1 := ⟨jobs[a].2.2.length - 1, by omega⟩
    have e : beforeN jobs[a].2.2 (m + 1) = beforeN jobs[a].2.2 m + (jobs[a].2.2.getD m wkNone).2 := rfl
    rw [wk_getD _ _ (by omega)] at e
    simp only [hm, Nat.add_sub_cancel]
    exact e
  simp only [leftN, beforeN]
  omega
/-! The steps of a center. -/
def pairsJ (c : ByteArray) (l : List Wk) (a : Nat) : Nat → List (Nat × Nat)
  | 0 => []
  | b + 1 => pairsJ c l a b ++ if ((l.getD b wkNone).1.toList == c.toList) = true then [(a, b)] else []
def pairsC (c : ByteArray) (jobs : List Jb) : Nat → List (Nat × Nat)
  | 0 => []
  | a + 1 => pairsC c jobs a ++ pairsJ c (jobs.getD a jbNone).2.2 a (jobs.getD a jbNone).2.2.length
theorem pairsJ_mem {c : ByteArray} {l : List Wk} {a b : Nat} {p : Nat × Nat} (h : p ∈ pairsJ c l a b) : p.1 = a ∧ p.2 < b ∧ ((l.getD p.2 wkNone).1.toList == c.toList) = true := by
  induction b with
  | zero => simp [pairsJ] at h
  | succ b ih =>
    simp only [pairsJ, List.mem_append] at h
    rcases h with h | h
    · have := ih h; exact ⟨this.1, by omega, this.2.2⟩
    · split at h
      · rename_i hc
        obtain rfl : p = (a, b) := by simpa using h
        exact ⟨rfl, by simp, hc⟩
      · simp at h
theorem pairsC_mem {c : ByteArray} {jobs : List Jb} {a : Nat} {p : Nat × Nat} (h : p ∈ pairsC c jobs a) : p.1 < a ∧ p.2 < (jobs.getD p.1 jbNone).2.2.length ∧ (((jobs.getD p.1 jbNone).2.2.getD p.2 wkNone).1.toList == c.toList) = true := by
  induction a with
  | zero => simp [pairsC] at h
  | succ a ih =>
    simp only [pairsC, List.mem_append] at h
    rcases h with h | h
    · have := ih h; exact ⟨by omega, this.2⟩
    · obtain ⟨h1, h2, h3⟩ := pairsJ_mem h
      rw [h1]
      exact ⟨by omega, h2, h3⟩
theorem pairsJ_nodup (c : ByteArray) (l : List Wk) (a b : Nat) : (pairsJ c l a b).Pairwise (· ≠ ·) := by
  induction b with
  | zero => exact List.Pairwise.nil
  | succ b ih =>
    simp only [pairsJ]
    split
    · refine List.pairwise_append.2 ⟨ih, by simp, fun p hp q hq => ?_⟩
      obtain rfl : q = (a, b) := by simpa using hq
      have := (pairsJ_mem hp).2.1
      intro e
      rw [e] at this
      simp at this
    · simpa using ih
theorem pairsC_nodup (c : ByteArray) (jobs : List Jb) (a : Nat) : (pairsC c jobs a).Pairwise (· ≠ ·) := by
  induction a with
  | zero => exact List.Pairwise.nil
  | succ a ih =>
    simp only [pairsC]
    refine List.pairwise_append.2 ⟨ih, pairsJ_nodup _ _ _ _, fun p hp q hq => ?_⟩
    have h1 := (pairsC_mem hp).1
    have h2 := (pairsJ_mem hq).1
    intro e
    rw [e] at h1
    omega
theorem headJ_le {c : ByteArray} {rel m : Int} {l : List Wk} {b : Nat} : headJ c rel l m b ≤ m ∧ ∀ k, k < b → ((l.getD k wkNone).1.toList == c.toList) = true → headJ c rel l m b ≤ rel + beforeN l k := by
  induction b with
  | zero => exact ⟨Int.le_refl _, fun k hk => absurd hk (by omega)⟩
  | succ b ih =>
    simp only [headJ]
    split
    · rename_i hc
      refine ⟨by omega, fun k hk hck => ?_⟩
      rcases Nat.lt_or_ge k b with h1 | h1
      · have := ih.2 k h1 hck; omega
      · obtain rfl : k = b := by omega
        omega
    · rename_i hc
      refine ⟨ih.1, fun k hk hck => ?_⟩
      rcases Nat.lt_or_ge k b with h1 | h1
      · exact ih.2 k h1 hck
      · obtain rfl : k = b := by omega
        exact absurd hck hc
theorem headC_le {c : ByteArray} {jobs : List Jb} {a : Nat} : ∀ i k, i < a → k < (jobs.getD i jbNone).2.2.length → (((jobs.getD i jbNone).2.2.getD k wkNone).1.toList == c.toList) = true → headC c jobs a ≤ (jobs.getD i jbNone).1 + beforeN (jobs.getD i jbNone).2.2 k := by
  induction a with
  | zero => intro i k hi; omega
  | succ a ih =>
    intro i k hi hk hc
    simp only [headC]
    rcases Nat.lt_or_ge i a with h1 | h1
    · have h2 := ih i k h1 hk hc
      have h3 := (headJ_le (c := c) (rel := (jobs.getD a jbNone).1) (m := headC c jobs a) (l := (jobs.getD a jbNone).2.2) (b := (jobs.getD a jbNone).2.2.length)).1
      omega
    · obtain rfl : i = a := by omega
      exact headJ_le.2 k hk hc
theorem center_le {jobs : List Jb} {slots : List Slt} (hs : isSched jobs slots = true) (c : ByteArray) {i0 k0 : Nat} (hi0 : i0 < jobs.length) (hk0 : k0 < (jobs.getD i0 jbNone).2.2.length) (hc0 : (((jobs.getD i0 jbNone).2.2.getD k0 wkNone).1.toList == c.toList) = true) : headC c jobs jobs.length + sumC c jobs jobs.length ≤ makespanOf slots := by
  have hss := hs
  simp only [isSched, Bool.and_eq_true, decide_eq_true_eq, List.all_eq_true, List.mem_range] at hss
  obtain ⟨hj, _, hok⟩ := hss
  have hex : ∀ p : Nat × Nat, ∃ x : Slt, (p.1 < jobs.length → p.2 < (jobs.getD p.1 jbNone).2.2.length → ∃ i, ∃ hi : i < slots.length, x = slots[i] ∧ SlotOk jobs x p.1 p.2) := fun p => by
    by_cases h1 : p.1 < jobs.length
    · by_cases h2 : p.2 < (jobs.getD p.1 jbNone).2.2.length
      · rw [jb_getD _ _ h1] at h2
        obtain ⟨i, hi, s⟩ := slot_of hs h1 h2
        exact ⟨slots[i], fun _ _ => ⟨i, hi, rfl, s⟩⟩
      · exact ⟨slNone, fun _ h => absurd h h2⟩
    · exact ⟨slNone, fun h => absurd h h1⟩
  let sl : Nat × Nat → Slt := fun p => Classical.choose (hex p)
  have hsl : ∀ p : Nat × Nat, p.1 < jobs.length → p.2 < (jobs.getD p.1 jbNone).2.2.length → ∃ i, ∃ hi : i < slots.length, sl p = slots[i] ∧ SlotOk jobs (sl p) p.1 p.2 := fun p => Classical.choose_spec (hex p)
  have hlen : ∀ a, a ≤ jobs.length → lenS ((pairsC c jobs a).map fun p => ((sl p).2.2.2.1, (sl p).2.2.2.2)) = sumC c jobs a := by
    intro a
    induction a with
    | zero => intro _; rfl
    | succ a ih =>
      intro ha
      have hJ : ∀ b, b ≤ (jobs.getD a jbNone).2.2.length → lenS ((pairsJ c (jobs.getD a jbNone).2.2 a b).map fun p => ((sl p).2.2.2.1, (sl p).2.2.2.2)) = sumJ c (jobs.getD a jbNone).2.2 b := by
        intro b
        induction b with
        | zero => intro _; rfl
        | succ b ihb =>
          intro hb
          simp only [pairsJ, List.map_append, lenS_append, sumJ]
          rw [ihb (by omega)]
          split
          · obtain ⟨i, hi, _, s⟩ := hsl (a, b) (by simp only; omega) (by simp only; omega)
            have h1 := s.stop
            have h2 := s.hb
            simp only [List.map_cons, List.map_nil, lenS]
            rw [jb_getD _ _ s.ha, wk_getD _ _ h2]
            omega
          · simp [lenS]
      simp only [pairsC, List.map_append, lenS_append, sumC]
      rw [ih (by omega), hJ _ (Nat.le_refl _)]
  have hbd : ∀ p ∈ (pairsC c jobs jobs.length).map (fun p => ((sl p).2.2.2.1, (sl p).2.2.2.2)), headC c jobs jobs.length ≤ p.1 ∧ p.1 < p.2 ∧ p.2 ≤ makespanOf slots := by
    intro q hq
    obtain ⟨p, hp, rfl⟩ := List.mem_map.1 hq
    obtain ⟨h1, h2, h3⟩ := pairsC_mem hp
    obtain ⟨i, hi, e, s⟩ := hsl p h1 h2
    have h4 := headC_le (c := c) (a := jobs.length) p.1 p.2 h1 h2 h3
    have h5 := start_ge hs p.2 i hi (e ▸ s)
    have h6 := makespan_ge slots i hi
    rw [← e] at h5 h6
    have h7 := s.stop
    have h8 := ((areJobs_parts hj).2 p.1 h1).2.2.2.2.2 p.2 s.hb
    simp only
    omega
  have hap : ((pairsC c jobs jobs.length).map (fun p => ((sl p).2.2.2.1, (sl p).2.2.2.2))).Pairwise Apart := by
    rw [List.pairwise_map]
    refine List.Pairwise.imp_of_mem (fun {p q} hp hq hne => ?_) (pairsC_nodup c jobs jobs.length)
    obtain ⟨h1, h2, h3⟩ := pairsC_mem hp
    obtain ⟨g1, g2, g3⟩ := pairsC_mem hq
    obtain ⟨i, hi, e, s⟩ := hsl p h1 h2
    obtain ⟨k, hk, e2, t⟩ := hsl q g1 g2
    have hik : i ≠ k := by
      intro h
      subst h
      have hx : sl p = sl q := e.trans e2.symm
      have h4 := s.job
      have h5 := s.step
      rw [hx] at h4 h5
      have h6 := h4.symm.trans t.job
      have h7 := h5.symm.trans t.step
      exact hne (Prod.ext (by omega) (by omega))
    have hcc : ((sl q).2.2.1.toList == (sl p).2.2.1.toList) = true := by
      have a1 := beq_iff_eq.1 s.center
      have a2 := beq_iff_eq.1 t.center
      rw [jb_getD _ _ h1, wk_getD _ _ s.hb] at h3
      rw [jb_getD _ _ g1, wk_getD _ _ t.hb] at g3
      rw [beq_iff_eq, a1, a2, beq_iff_eq.1 h3, beq_iff_eq.1 g3]
    have := (slots_two hok hi hk hik).2 (by rw [← e, ← e2]; exact hcc)
    rw [← e, ← e2] at this
    unfold Apart
    simp only
    omega
  have hh : headC c jobs jobs.length ≤ makespanOf slots := by
    obtain ⟨i, hi, e, s⟩ := hsl (i0, k0) hi0 hk0
    have h4 := headC_le (c := c) (a := jobs.length) i0 k0 hi0 hk0 hc0
    have h5 := start_ge hs k0 i hi (e ▸ s)
    have h6 := makespan_ge slots i hi
    rw [← e] at h5 h6
    have h7 := s.stop
    have h8 := ((areJobs_parts hj).2 i0 hi0).2.2.2.2.2 k0 s.hb
    simp only at h5 h6 h7
    omega
  have := pack _ _ _ _ (Nat.le_refl _) hh hbd hap
  rw [hlen _ (Nat.le_refl _)] at this
  omega
/-- No schedule ends before the bound. -/
theorem bound_le {jobs : List Jb} {slots : List Slt} (hs : isSched jobs slots = true) : workBound jobs ≤ makespanOf slots := by
  have hj : areJobs jobs = true := by
    simp only [isSched, Bool.and_eq_true] at hs
    exact hs.1
  rw [workBound_yes hj]
  rcases (workBound_top jobs).2.2 with h | h
  · rw [h]; exact makespan_nonneg _
  · rcases h with ⟨i, hi, h1, h2⟩ | ⟨i, k, hi, hk, h2⟩
    · rw [h2]
      rw [jb_getD _ _ hi] at h1 ⊢
      exact way_le hs hi h1
    · rw [h2]
      exact center_le hs _ hi hk (by simp)
end Go.Proofs.Ytmkfinahbelpdaa
