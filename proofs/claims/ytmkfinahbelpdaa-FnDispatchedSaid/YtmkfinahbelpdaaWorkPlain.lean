/- Plain law of the bound of all work: no program in sight but the jobs' kinds. -/
import Derived.Test.YtmkfinahbelpdaaSchedPlain
namespace Go.Proofs.Ytmkfinahbelpdaa
open Go.RowKit
/-- The minutes of a job's steps before step b. -/
def beforeN (l : List Wk) : Nat → Int
  | 0 => 0
  | b + 1 => beforeN l b + (l.getD b wkNone).2
/-- Those from step b on. -/
def leftN (l : List Wk) (b : Nat) : Int := beforeN l l.length - beforeN l b
/-- All steps of the first a jobs, and of the next one the first b: what a center has to do, and when it can begin at the earliest. -/
def sumJ (c : ByteArray) (l : List Wk) : Nat → Int
  | 0 => 0
  | b + 1 => sumJ c l b + if ((l.getD b wkNone).1.toList == c.toList) = true then (l.getD b wkNone).2 else 0
def headJ (c : ByteArray) (rel : Int) (l : List Wk) (m : Int) : Nat → Int
  | 0 => m
  | b + 1 => if ((l.getD b wkNone).1.toList == c.toList) = true then min (headJ c rel l m b) (rel + beforeN l b) else headJ c rel l m b
def sumC (c : ByteArray) (jobs : List Jb) : Nat → Int
  | 0 => 0
  | a + 1 => sumC c jobs a + sumJ c (jobs.getD a jbNone).2.2 (jobs.getD a jbNone).2.2.length
def headC (c : ByteArray) (jobs : List Jb) : Nat → Int
  | 0 => 100000
  | a + 1 => headJ c (jobs.getD a jbNone).1 (jobs.getD a jbNone).2.2 (headC c jobs a) (jobs.getD a jbNone).2.2.length
/-- The bound, as the reference reckons it: job by job, step by step. -/
def boundK (jobs : List Jb) (l : List Wk) (n : Int) : Nat → Int
  | 0 => n
  | k + 1 => max (boundK jobs l n k) (headC (l.getD k wkNone).1 jobs jobs.length + sumC (l.getD k wkNone).1 jobs jobs.length)
def boundI (jobs : List Jb) : Nat → Int
  | 0 => 0
  | i + 1 => boundK jobs (jobs.getD i jbNone).2.2 (if 0 < (jobs.getD i jbNone).2.2.length then max (boundI jobs i) ((jobs.getD i jbNone).1 + leftN (jobs.getD i jbNone).2.2 0) else boundI jobs i) (jobs.getD i jbNone).2.2.length
def workBound (jobs : List Jb) : Int := if areJobs jobs then boundI jobs jobs.length else 0
theorem workBound_no {jobs : List Jb} (h : areJobs jobs = false) : workBound jobs = 0 := by simp [workBound, h]
theorem workBound_yes {jobs : List Jb} (h : areJobs jobs = true) : workBound jobs = boundI jobs jobs.length := by simp [workBound, h]
/-! Bounds. -/
def MinOk (l : List Wk) : Prop := l.length ≤ 5 ∧ ∀ j (hj : j < l.length), 1 ≤ l[j].2 ∧ l[j].2 ≤ 1000
theorem MinOk.at_ {l : List Wk} (h : MinOk l) (j : Nat) : 0 ≤ (l.getD j wkNone).2 ∧ (l.getD j wkNone).2 ≤ 1000 := by
  rcases Nat.lt_or_ge j l.length with h1 | h1
  · rw [wk_getD _ _ h1]; have := h.2 j h1; omega
  · rw [List.getD_eq_getElem?_getD, List.getElem?_eq_none h1]; simp [wkNone]
theorem beforeN_bd {l : List Wk} (h : MinOk l) (b : Nat) : 0 ≤ beforeN l b ∧ beforeN l b ≤ 1000 * b := by
  induction b with
  | zero => simp [beforeN]
  | succ b ih => have := h.at_ b; simp only [beforeN]; omega
theorem sumJ_bd {l : List Wk} (h : MinOk l) (c : ByteArray) (b : Nat) : 0 ≤ sumJ c l b ∧ sumJ c l b ≤ 1000 * b := by
  induction b with
  | zero => simp [sumJ]
  | succ b ih => have := h.at_ b; simp only [sumJ]; split <;> omega
theorem headJ_bd {l : List Wk} (h : MinOk l) (c : ByteArray) (rel m : Int) (hr : 0 ≤ rel) (hm : 0 ≤ m) (b : Nat) : 0 ≤ headJ c rel l m b ∧ headJ c rel l m b ≤ m := by
  induction b with
  | zero => simp [headJ]; exact hm
  | succ b ih => have := (beforeN_bd h b).1; simp only [headJ]; split <;> omega
theorem jobs_ok {jobs : List Jb} (h : areJobs jobs = true) (a : Nat) : MinOk (jobs.getD a jbNone).2.2 ∧ 0 ≤ (jobs.getD a jbNone).1 ∧ (jobs.getD a jbNone).1 ≤ 100000 := by
  rcases Nat.lt_or_ge a jobs.length with h1 | h1
  · rw [jb_getD _ _ h1]
    have := (areJobs_parts h).2 a h1
    exact ⟨⟨this.2.2.2.2.1, this.2.2.2.2.2⟩, this.1, this.2.1⟩
  · rw [List.getD_eq_getElem?_getD, List.getElem?_eq_none h1]
    exact ⟨⟨by simp [jbNone], fun j hj => by simp [jbNone] at hj⟩, by simp [jbNone], by simp [jbNone]⟩
theorem sumC_bd {jobs : List Jb} (h : areJobs jobs = true) (c : ByteArray) (a : Nat) : 0 ≤ sumC c jobs a ∧ sumC c jobs a ≤ 5000 * a := by
  induction a with
  | zero => simp [sumC]
  | succ a ih =>
    have h1 := (jobs_ok h a).1
    have h2 := sumJ_bd h1 c (jobs.getD a jbNone).2.2.length
    have h3 := h1.1
    simp only [sumC]; omega
theorem headC_bd {jobs : List Jb} (h : areJobs jobs = true) (c : ByteArray) (a : Nat) : 0 ≤ headC c jobs a ∧ headC c jobs a ≤ 100000 := by
  induction a with
  | zero => simp [headC]
  | succ a ih =>
    obtain ⟨h1, h2, _⟩ := jobs_ok h a
    have := headJ_bd h1 c (jobs.getD a jbNone).1 (headC c jobs a) h2 ih.1 (jobs.getD a jbNone).2.2.length
    simp only [headC]; omega
theorem boundK_bd {jobs : List Jb} (h : areJobs jobs = true) (l : List Wk) (n : Int) (hn : 0 ≤ n ∧ n ≤ 1000000) (k : Nat) : 0 ≤ boundK jobs l n k ∧ boundK jobs l n k ≤ 1000000 := by
  have h6 := (areJobs_parts h).1
  induction k with
  | zero => exact hn
  | succ k ih =>
    have h1 := sumC_bd h (l.getD k wkNone).1 jobs.length
    have h2 := headC_bd h (l.getD k wkNone).1 jobs.length
    simp only [boundK]; omega
theorem boundI_bd {jobs : List Jb} (h : areJobs jobs = true) (i : Nat) : 0 ≤ boundI jobs i ∧ boundI jobs i ≤ 1000000 := by
  induction i with
  | zero => simp [boundI]
  | succ i ih =>
    obtain ⟨h1, h2, h3⟩ := jobs_ok h i
    have h4 := beforeN_bd h1 (jobs.getD i jbNone).2.2.length
    have h5 := h1.1
    simp only [boundI]
    refine boundK_bd h _ _ ?_ _
    split
    · simp only [leftN, beforeN]; omega
    · exact ih
/-! What it is: the least number that is no less than each job's way and each center's work. -/
def Item (jobs : List Jb) (x : Int) : Prop :=
  (∃ i, i < jobs.length ∧ 0 < (jobs.getD i jbNone).2.2.length ∧ x = (jobs.getD i jbNone).1 + leftN (jobs.getD i jbNone).2.2 0) ∨
  (∃ i k, i < jobs.length ∧ k < (jobs.getD i jbNone).2.2.length ∧ x = headC ((jobs.getD i jbNone).2.2.getD k wkNone).1 jobs jobs.length + sumC ((jobs.getD i jbNone).2.2.getD k wkNone).1 jobs jobs.length)
def IsTop (P : Int → Prop) (b : Int) : Prop := 0 ≤ b ∧ (∀ x, P x → x ≤ b) ∧ (b = 0 ∨ P b)
theorem isTop_one {P : Int → Prop} {a b : Int} (ha : IsTop P a) (hb : IsTop P b) : a = b := by
  obtain ⟨a0, a1, a2⟩ := ha
  obtain ⟨b0, b1, b2⟩ := hb
  have h1 : a ≤ b := by rcases a2 with h | h; exact h ▸ b0; exact b1 _ h
  have h2 : b ≤ a := by rcases b2 with h | h; exact h ▸ a0; exact a1 _ h
  omega
theorem isTop_iff {P Q : Int → Prop} {b : Int} (h : IsTop P b) (hpq : ∀ x, P x ↔ Q x) : IsTop Q b :=
  ⟨h.1, fun x hx => h.2.1 x ((hpq x).2 hx), h.2.2.imp id (fun hb => (hpq b).1 hb)⟩
theorem isTop_none {P : Int → Prop} (h : ∀ x, ¬ P x) : IsTop P 0 := ⟨Int.le_refl _, fun x hx => absurd hx (h x), .inl rfl⟩
theorem isTop_add {P : Int → Prop} {b : Int} (h : IsTop P b) (y : Int) : IsTop (fun x => P x ∨ x = y) (max b y) := by
  obtain ⟨h0, h1, h2⟩ := h
  refine ⟨by omega, fun x hx => ?_, ?_⟩
  · rcases hx with hx | rfl
    · have := h1 x hx; omega
    · omega
  · rcases Int.le_total b y with hby | hby
    · rw [Int.max_eq_right hby]; exact .inr (.inr rfl)
    · rw [Int.max_eq_left hby]; exact h2.imp id .inl
theorem boundK_top {jobs : List Jb} (l : List Wk) {P : Int → Prop} {n : Int} (h : IsTop P n) (k : Nat) : IsTop (fun x => P x ∨ ∃ j, j < k ∧ x = headC (l.getD j wkNone).1 jobs jobs.length + sumC (l.getD j wkNone).1 jobs jobs.length) (boundK jobs l n k) := by
  induction k with
  | zero => exact isTop_iff h (fun x => ⟨.inl, fun hx => hx.elim id (fun ⟨j, hj, _⟩ => absurd hj (by omega))⟩)
  | succ k ih =>
    refine isTop_iff (isTop_add ih (headC (l.getD k wkNone).1 jobs jobs.length + sumC (l.getD k wkNone).1 jobs jobs.length)) (fun x => ⟨fun hx => ?_, fun hx => ?_⟩)
    · rcases hx with (hx | ⟨j, hj, hx⟩) | hx
      · exact .inl hx
      · exact .inr ⟨j, by omega, hx⟩
      · exact .inr ⟨k, by omega, hx⟩
    · rcases hx with hx | ⟨j, hj, hx⟩
      · exact .inl (.inl hx)
      · rcases Nat.lt_or_ge j k with h1 | h1
        · exact .inl (.inr ⟨j, h1, hx⟩)
        · obtain rfl : j = k := by omega
          exact .inr hx
def ItemTo (jobs : List Jb) (m : Nat) (x : Int) : Prop :=
  (∃ i, i < m ∧ 0 < (jobs.getD i jbNone).2.2.length ∧ x = (jobs.getD i jbNone).1 + leftN (jobs.getD i jbNone).2.2 0) ∨
  (∃ i k, i < m ∧ k < (jobs.getD i jbNone).2.2.length ∧ x = headC ((jobs.getD i jbNone).2.2.getD k wkNone).1 jobs jobs.length + sumC ((jobs.getD i jbNone).2.2.getD k wkNone).1 jobs jobs.length)
theorem boundI_top (jobs : List Jb) (m : Nat) : IsTop (ItemTo jobs m) (boundI jobs m) := by
  induction m with
  | zero => exact isTop_none (fun x hx => by rcases hx with ⟨i, hi, _⟩ | ⟨i, k, hi, _⟩ <;> omega)
  | succ m ih =>
    simp only [boundI]
    have h1 : IsTop (fun x => ItemTo jobs m x ∨ (0 < (jobs.getD m jbNone).2.2.length ∧ x = (jobs.getD m jbNone).1 + leftN (jobs.getD m jbNone).2.2 0)) (if 0 < (jobs.getD m jbNone).2.2.length then max (boundI jobs m) ((jobs.getD m jbNone).1 + leftN (jobs.getD m jbNone).2.2 0) else boundI jobs m) := by
      split
      · rename_i hp
        exact isTop_iff (isTop_add ih _) (fun x => ⟨fun h => h.imp id (fun h => ⟨hp, h⟩), fun h => h.imp id (fun h => h.2)⟩)
      · rename_i hp
        exact isTop_iff ih (fun x => ⟨.inl, fun h => h.elim id (fun h => absurd h.1 hp)⟩)
    refine isTop_iff (boundK_top (jobs := jobs) (jobs.getD m jbNone).2.2 h1 (jobs.getD m jbNone).2.2.length) (fun x => ⟨fun hx => ?_, fun hx => ?_⟩)
    · rcases hx with ((⟨i, hi, hx⟩ | ⟨i, k, hi, hx⟩) | hx) | ⟨j, hj, hx⟩
      · exact .inl ⟨i, by omega, hx⟩
      · exact .inr ⟨i, k, by omega, hx⟩
      · exact .inl ⟨m, by omega, hx⟩
      · exact .inr ⟨m, j, by omega, hj, hx⟩
    · rcases hx with ⟨i, hi, hx⟩ | ⟨i, k, hi, hx⟩
      · rcases Nat.lt_or_ge i m with h2 | h2
        · exact .inl (.inl (.inl ⟨i, h2, hx⟩))
        · obtain rfl : i = m := by omega
          exact .inl (.inr hx)
      · rcases Nat.lt_or_ge i m with h2 | h2
        · exact .inl (.inl (.inr ⟨i, k, h2, hx⟩))
        · obtain rfl : i = m := by omega
          exact .inr ⟨k, hx.1, hx.2⟩
theorem workBound_top (jobs : List Jb) : IsTop (Item jobs) (boundI jobs jobs.length) := boundI_top jobs jobs.length
end Go.Proofs.Ytmkfinahbelpdaa
