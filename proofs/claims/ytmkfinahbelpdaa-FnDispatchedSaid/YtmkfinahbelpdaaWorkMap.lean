/- Maps from codes to numbers, and what the program's WorkBound keeps in them. -/
import Derived.Test.YtmkfinahbelpdaaWorkPlain
import Derived.Test.YtmkfinahbelpdaaBox
import Derived.Maps.OwnSet
import Derived.Maps.RangeWalk
import Derived.Laws.Strings
namespace Go.Proofs.Ytmkfinahbelpdaa
open Go.RowKit Go.Maps
theorem strKeyed : Keyed Try.prog 9 := string_keyed Try.underlying9
theorem zeroI (w : World) : (zeroValue 3).run Try.prog w = .ok (.int .i64 0) w := by kernel_rfl
def kl (s : ByteArray) : Lit := .string s.data.toList
theorem kl_iff {a b : ByteArray} : kl a = kl b ↔ a.toList = b.toList := by simp [kl, ByteArray.toList_eq]
instance klDec (a b : ByteArray) : Decidable (kl a = kl b) := decidable_of_iff (a.toList = b.toList) kl_iff.symm
theorem kl_bool {a b : ByteArray} : (a.toList == b.toList) = true ↔ kl a = kl b := by rw [kl_iff]; simp
theorem kl_key (s : ByteArray) : WideAt.IsKeyLit (kl s) := by simp [kl, WideAt.IsKeyLit]
theorem keyOf_string_inv {key : Value} {k : Lit} (h : keyOf Try.prog 9 key = some k) : ∃ s : ByteArray, key = .string s ∧ k = kl s ∧ s.size ≤ maxLen := by
  have hk := Try.underlying9
  cases key <;> simp [keyOf, hk, mapKey] at h
  obtain ⟨h1, rfl⟩ := h
  exact ⟨_, rfl, rfl, h1⟩
/-- A map as a function on codes. -/
def View (D : DataW Unit) (f : ByteArray → Int) (S : ByteArray → Prop) : Prop :=
  IsMap D ∧ ∀ s, (has D (kl s) = true ↔ S s) ∧ (S s → D.atKey (kl s) (.lit (.int .i64 0)) = .lit (.int .i64 (f s)))
section
variable {D : DataW Unit} {f g : ByteArray → Int} {S T : ByteArray → Prop}
theorem View.congr (h : View D f S) (hS : ∀ s, S s ↔ T s) (hf : ∀ s, T s → f s = g s) : View D g T :=
  ⟨h.1, fun s => ⟨(h.2 s).1.trans (hS s), fun ht => by rw [← hf s ht]; exact (h.2 s).2 ((hS s).2 ht)⟩⟩
theorem View.empty : View (.map []) f (fun _ => False) := ⟨isMap_empty, fun s => ⟨by simp [has], fun h => h.elim⟩⟩
theorem View.put (h : View D f S) (c : ByteArray) (x : Int) : View (D.put (kl c) (.lit (.int .i64 x))) (fun s => if kl s = kl c then x else f s) (fun s => S s ∨ kl s = kl c) := by
  refine ⟨h.1.put _ _, fun s => ?_⟩
  by_cases hs : kl s = kl c
  · simp only [hs, or_true, if_true]
    exact ⟨by simp [has_put_same h.1 (kl_key c)], fun _ => atKey_put_same h.1 (kl_key c) _ _⟩
  · dsimp only
    rw [if_neg hs, has_put_other hs, atKey_put_other hs]
    exact ⟨by simp [hs, (h.2 s).1], fun hS => (h.2 s).2 (hS.resolve_right hs)⟩
theorem View.at_ (h : View D f S) {c : ByteArray} {x : Int} (hS : S c) (hat : D.atKey (kl c) (.lit (.int .i64 0)) = .lit (.int .i64 x)) : x = f c := by
  rw [(h.2 c).2 hS] at hat
  cases hat; rfl
theorem View.none (h : View D f S) {c : ByteArray} {x : Int} (hS : ¬ S c) (hat : D.atKey (kl c) (.lit (.int .i64 0)) = .lit (.int .i64 x)) : x = 0 := by
  have : has D (kl c) = false := by
    cases hh : has D (kl c)
    · rfl
    · exact absurd ((h.2 c).1.1 hh) hS
  rw [atKey_of_not_has this] at hat
  cases hat; rfl
end
/-! What has been seen. -/
def SeenJ (s : ByteArray) (l : List Wk) : Nat → Prop
  | 0 => False
  | b + 1 => SeenJ s l b ∨ kl s = kl (l.getD b wkNone).1
def SeenC (s : ByteArray) (jobs : List Jb) : Nat → Prop
  | 0 => False
  | a + 1 => SeenC s jobs a ∨ SeenJ s (jobs.getD a jbNone).2.2 (jobs.getD a jbNone).2.2.length
theorem sumJ_unseen {c : ByteArray} {l : List Wk} {b : Nat} (h : ¬ SeenJ c l b) : sumJ c l b = 0 := by
  induction b with
  | zero => rfl
  | succ b ih =>
    simp only [SeenJ, not_or] at h
    simp only [sumJ]
    rw [ih h.1, if_neg (fun hb => h.2 (kl_bool.1 hb).symm)]; rfl
theorem headJ_unseen {c : ByteArray} {rel m : Int} {l : List Wk} {b : Nat} (h : ¬ SeenJ c l b) : headJ c rel l m b = m := by
  induction b with
  | zero => rfl
  | succ b ih =>
    simp only [SeenJ, not_or] at h
    simp only [headJ]
    rw [if_neg (fun hb => h.2 (kl_bool.1 hb).symm)]; exact ih h.1
theorem sumC_unseen {c : ByteArray} {jobs : List Jb} {a : Nat} (h : ¬ SeenC c jobs a) : sumC c jobs a = 0 := by
  induction a with
  | zero => rfl
  | succ a ih =>
    simp only [SeenC, not_or] at h
    simp only [sumC]
    rw [ih h.1, sumJ_unseen h.2]; rfl
theorem headC_unseen {c : ByteArray} {jobs : List Jb} {a : Nat} (h : ¬ SeenC c jobs a) : headC c jobs a = 100000 := by
  induction a with
  | zero => rfl
  | succ a ih =>
    simp only [SeenC, not_or] at h
    simp only [headC]
    rw [headJ_unseen h.2]; exact ih h.1
theorem sumJ_congr {c d : ByteArray} (h : kl c = kl d) (l : List Wk) (b : Nat) : sumJ c l b = sumJ d l b := by
  induction b with
  | zero => rfl
  | succ b ih => simp only [sumJ]; rw [ih, kl_iff.1 h]
theorem headJ_congr {c d : ByteArray} (h : kl c = kl d) (rel m : Int) (l : List Wk) (b : Nat) : headJ c rel l m b = headJ d rel l m b := by
  induction b with
  | zero => rfl
  | succ b ih => simp only [headJ]; rw [ih, kl_iff.1 h]
theorem sumC_congr {c d : ByteArray} (h : kl c = kl d) (jobs : List Jb) (a : Nat) : sumC c jobs a = sumC d jobs a := by
  induction a with
  | zero => rfl
  | succ a ih => simp only [sumC]; rw [ih, sumJ_congr h]
theorem headC_congr {c d : ByteArray} (h : kl c = kl d) (jobs : List Jb) (a : Nat) : headC c jobs a = headC d jobs a := by
  induction a with
  | zero => rfl
  | succ a ih => simp only [headC]; rw [ih, headJ_congr h]
/-- In the middle of job a, before its step b. -/
def workAt (jobs : List Jb) (a : Nat) (l : List Wk) (b : Nat) (s : ByteArray) : Int := sumC s jobs a + sumJ s l b
def headAt (jobs : List Jb) (a : Nat) (rel : Int) (l : List Wk) (b : Nat) (s : ByteArray) : Int := headJ s rel l (headC s jobs a) b
def SeenAt (jobs : List Jb) (a : Nat) (l : List Wk) (b : Nat) (s : ByteArray) : Prop := SeenC s jobs a ∨ SeenJ s l b
section
variable {jobs : List Jb} {a b : Nat} {rel : Int} {l : List Wk} {s : ByteArray}
theorem workAt_unseen (h : ¬ SeenAt jobs a l b s) : workAt jobs a l b s = 0 := by
  simp only [SeenAt, not_or] at h
  unfold workAt; rw [sumC_unseen h.1, sumJ_unseen h.2]; rfl
theorem headAt_unseen (h : ¬ SeenAt jobs a l b s) : headAt jobs a rel l b s = 100000 := by
  simp only [SeenAt, not_or] at h
  unfold headAt; rw [headJ_unseen h.2, headC_unseen h.1]
theorem workAt_congr {c d : ByteArray} (h : kl c = kl d) : workAt jobs a l b c = workAt jobs a l b d := by unfold workAt; rw [sumC_congr h, sumJ_congr h]
theorem headAt_congr {c d : ByteArray} (h : kl c = kl d) : headAt jobs a rel l b c = headAt jobs a rel l b d := by unfold headAt; rw [headC_congr h, headJ_congr h]
theorem workAt_next (hb : b < l.length) : workAt jobs a l (b + 1) s = if kl s = kl l[b].1 then workAt jobs a l b l[b].1 + l[b].2 else workAt jobs a l b s := by
  have e : workAt jobs a l (b + 1) s = workAt jobs a l b s + if (l[b].1.toList == s.toList) = true then l[b].2 else 0 := by
    unfold workAt; simp only [sumJ]; rw [wk_getD _ _ hb]; omega
  rw [e]
  by_cases h : kl s = kl l[b].1
  · rw [if_pos h, if_pos (kl_bool.2 h.symm), workAt_congr h]
  · rw [if_neg h, if_neg (fun hh => h (kl_bool.1 hh).symm)]; omega
theorem headAt_next (hb : b < l.length) : headAt jobs a rel l (b + 1) s = if kl s = kl l[b].1 then min (headAt jobs a rel l b l[b].1) (rel + beforeN l b) else headAt jobs a rel l b s := by
  have e : headAt jobs a rel l (b + 1) s = if (l[b].1.toList == s.toList) = true then min (headAt jobs a rel l b s) (rel + beforeN l b) else headAt jobs a rel l b s := by
    unfold headAt; simp only [headJ]; rw [wk_getD _ _ hb]
  rw [e]
  by_cases h : kl s = kl l[b].1
  · rw [if_pos h, if_pos (kl_bool.2 h.symm), headAt_congr h]
  · rw [if_neg h, if_neg (fun hh => h (kl_bool.1 hh).symm)]
theorem seenAt_next (hb : b < l.length) : SeenAt jobs a l (b + 1) s ↔ SeenAt jobs a l b s ∨ kl s = kl l[b].1 := by
  unfold SeenAt; simp only [SeenJ]; rw [wk_getD _ _ hb]; exact or_assoc.symm
theorem workAt_job (ha : a < jobs.length) : workAt jobs a jobs[a].2.2 jobs[a].2.2.length s = sumC s jobs (a + 1) := by unfold workAt; simp only [sumC]; rw [jb_getD _ _ ha]
theorem headAt_job (ha : a < jobs.length) : headAt jobs a jobs[a].1 jobs[a].2.2 jobs[a].2.2.length s = headC s jobs (a + 1) := by unfold headAt; simp only [headC]; rw [jb_getD _ _ ha]
theorem seenAt_job (ha : a < jobs.length) : SeenAt jobs a jobs[a].2.2 jobs[a].2.2.length s ↔ SeenC s jobs (a + 1) := by unfold SeenAt; simp only [SeenC]; rw [jb_getD _ _ ha]
theorem workAt_start : workAt jobs a l 0 s = sumC s jobs a := by unfold workAt; simp [sumJ]
theorem headAt_start : headAt jobs a rel l 0 s = headC s jobs a := rfl
theorem seenAt_start : SeenAt jobs a l 0 s ↔ SeenC s jobs a := by unfold SeenAt; simp [SeenJ]
end
/-- A center is seen just if some step has it. -/
theorem seenJ_iff (s : ByteArray) (l : List Wk) (b : Nat) : SeenJ s l b ↔ ∃ k, k < b ∧ kl s = kl (l.getD k wkNone).1 := by
  induction b with
  | zero => simp [SeenJ]
  | succ b ih =>
    simp only [SeenJ, ih]
    constructor
    · rintro (⟨k, hk, h⟩ | h)
      · exact ⟨k, by omega, h⟩
      · exact ⟨b, by omega, h⟩
    · rintro ⟨k, hk, h⟩
      rcases Nat.lt_or_ge k b with h1 | h1
      · exact .inl ⟨k, h1, h⟩
      · obtain rfl : k = b := by omega
        exact .inr h
theorem seenC_iff (s : ByteArray) (jobs : List Jb) (a : Nat) : SeenC s jobs a ↔ ∃ i k, i < a ∧ k < (jobs.getD i jbNone).2.2.length ∧ kl s = kl ((jobs.getD i jbNone).2.2.getD k wkNone).1 := by
  induction a with
  | zero => simp [SeenC]
  | succ a ih =>
    simp only [SeenC, ih, seenJ_iff]
    constructor
    · rintro (⟨i, k, hi, hk, h⟩ | ⟨k, hk, h⟩)
      · exact ⟨i, k, by omega, hk, h⟩
      · exact ⟨a, k, by omega, hk, h⟩
    · rintro ⟨i, k, hi, hk, h⟩
      rcases Nat.lt_or_ge i a with h1 | h1
      · exact .inl ⟨i, k, h1, hk, h⟩
      · obtain rfl : i = a := by omega
        exact .inr ⟨k, hk, h⟩
def WayTo (jobs : List Jb) (m : Nat) (x : Int) : Prop := ∃ i, i < m ∧ 0 < (jobs.getD i jbNone).2.2.length ∧ x = (jobs.getD i jbNone).1 + leftN (jobs.getD i jbNone).2.2 0
theorem item_iff (jobs : List Jb) (x : Int) : (WayTo jobs jobs.length x ∨ ∃ s : ByteArray, SeenC s jobs jobs.length ∧ x = headC s jobs jobs.length + sumC s jobs jobs.length) ↔ Item jobs x := by
  constructor
  · rintro (h | ⟨s, hs, rfl⟩)
    · exact .inl h
    · obtain ⟨i, k, hi, hk, h⟩ := (seenC_iff _ _ _).1 hs
      exact .inr ⟨i, k, hi, hk, by rw [headC_congr h, sumC_congr h]⟩
  · rintro (h | ⟨i, k, hi, hk, rfl⟩)
    · exact .inl h
    · exact .inr ⟨_, (seenC_iff _ _ _).2 ⟨i, k, hi, hk, rfl⟩, rfl⟩
theorem BoxOf.grown {w w' : World} {N : Nat} {cs : List Value} {row : Option Nat} (h : BoxOf w N cs) (hg : w.grownBy w' row) (hne : row ≠ some N) : BoxOf w' N cs :=
  ⟨Nat.lt_of_lt_of_le h.1 hg.size, fun j u hu => by rw [World.cell?_of_block (hg.block N h.1 (fun e => hne e.symm))]; exact h.2 j u hu⟩
end Go.Proofs.Ytmkfinahbelpdaa
