/- What a schedule is. -/
import Derived.Test.YtmkfinahbelpdaaJobs
import Derived.Test.YtmkfinahbelpdaaSlotTo
namespace Go.Proofs.Ytmkfinahbelpdaa
open Go.RowKit
def clashJ (x y : Slt) : Bool := decide (y.1 = x.1) && (decide (y.2.1 = x.2.1) || (decide (y.2.1 < x.2.1) && decide (x.2.2.2.1 < y.2.2.2.2)) || (decide (x.2.1 < y.2.1) && decide (y.2.2.2.1 < x.2.2.2.2)))
def clashC (x y : Slt) : Bool := (y.2.2.1.toList == x.2.2.1.toList) && (decide (x.2.2.2.1 < y.2.2.2.2) && decide (y.2.2.2.1 < x.2.2.2.2))
theorem clash_no {x y : Slt} (hJ : ¬ y.1 = x.1 ∨ (¬ y.2.1 = x.2.1 ∧ ¬ (y.2.1 < x.2.1 ∧ x.2.2.2.1 < y.2.2.2.2) ∧ ¬ (x.2.1 < y.2.1 ∧ y.2.2.2.1 < x.2.2.2.2))) (hC : (y.2.2.1.toList == x.2.2.1.toList) = false ∨ ¬ (x.2.2.2.1 < y.2.2.2.2 ∧ y.2.2.2.1 < x.2.2.2.2)) : clashJ x y = false ∧ clashC x y = false := by
  constructor
  · rw [Bool.eq_false_iff]
    intro h
    simp only [clashJ, Bool.and_eq_true, Bool.or_eq_true, decide_eq_true_eq] at h
    omega
  · rw [Bool.eq_false_iff]
    intro h
    simp only [clashC, Bool.and_eq_true, decide_eq_true_eq] at h
    rcases hC with hC | hC
    · rw [h.1] at hC; cases hC
    · exact hC h.2
theorem clash_yesJ {x y : Slt} (h1 : y.1 = x.1) (h : y.2.1 = x.2.1 ∨ (y.2.1 < x.2.1 ∧ x.2.2.2.1 < y.2.2.2.2) ∨ (x.2.1 < y.2.1 ∧ y.2.2.2.1 < x.2.2.2.2)) : clashJ x y = true := by
  simp only [clashJ, Bool.and_eq_true, Bool.or_eq_true, decide_eq_true_eq]
  omega
theorem clash_yesC {x y : Slt} (hc : (y.2.2.1.toList == x.2.2.1.toList) = true) (h4 : x.2.2.2.1 < y.2.2.2.2) (h6 : y.2.2.2.1 < x.2.2.2.2) : clashC x y = true := by
  simp only [clashC, Bool.and_eq_true, decide_eq_true_eq]
  exact ⟨hc, h4, h6⟩
def jbNone : Jb := (0, 0, [])
def wkNone : Wk := (ByteArray.empty, 0)
def slNone : Slt := (0, 0, ByteArray.empty, 0, 0)
def jobOf (jobs : List Jb) (x : Slt) : Jb := jobs.getD x.1.toNat jbNone
def workOf (jobs : List Jb) (x : Slt) : Wk := (jobOf jobs x).2.2.getD x.2.1.toNat wkNone
def fit (jobs : List Jb) (x : Slt) : Bool :=
  inB x.1 0 ((jobs.length : Int) - 1) && (inB x.2.1 0 (((jobOf jobs x).2.2.length : Int) - 1) && (inB x.2.2.2.1 (jobOf jobs x).1 1000000 && ((x.2.2.1.toList == (workOf jobs x).1.toList) && decide (x.2.2.2.2 = x.2.2.2.1 + (workOf jobs x).2))))
def okSl (jobs : List Jb) (slots : List Slt) (i : Nat) : Bool :=
  fit jobs (slots.getD i slNone) && (List.range i).all fun k => !clashJ (slots.getD i slNone) (slots.getD k slNone) && !clashC (slots.getD i slNone) (slots.getD k slNone)
def stepsTo (jobs : List Jb) : Nat → Nat
  | 0 => 0
  | k + 1 => stepsTo jobs k + (jobs.getD k jbNone).2.2.length
def isSched (jobs : List Jb) (slots : List Slt) : Bool := areJobs jobs && (decide (slots.length = stepsTo jobs jobs.length) && (List.range slots.length).all (okSl jobs slots))
theorem jb_getD (l : List Jb) (k : Nat) (h : k < l.length) : l.getD k jbNone = l[k] := by rw [List.getD_eq_getElem?_getD, List.getElem?_eq_getElem h]; rfl
theorem wk_getD (l : List Wk) (k : Nat) (h : k < l.length) : l.getD k wkNone = l[k] := by rw [List.getD_eq_getElem?_getD, List.getElem?_eq_getElem h]; rfl
theorem sl_getD (l : List Slt) (k : Nat) (h : k < l.length) : l.getD k slNone = l[k] := by rw [List.getD_eq_getElem?_getD, List.getElem?_eq_getElem h]; rfl
theorem stepsTo_bd {jobs : List Jb} (h : areJobs jobs = true) (k : Nat) (hk : k ≤ jobs.length) : stepsTo jobs k ≤ 5 * k := by
  induction k with
  | zero => simp [stepsTo]
  | succ k ih =>
    have h1 := ((areJobs_parts h).2 k (by omega)).2.2.2.2.1
    simp only [stepsTo]
    rw [jb_getD _ _ (by omega)]
    have := ih (by omega)
    omega
theorem isSched_no {jobs : List Jb} {slots : List Slt} (h : areJobs jobs = false) : isSched jobs slots = false := by simp [isSched, h]
theorem isSched_len {jobs : List Jb} {slots : List Slt} (h : ¬ slots.length = stepsTo jobs jobs.length) : isSched jobs slots = false := by simp [isSched, h]
theorem isSched_at {jobs : List Jb} {slots : List Slt} {i : Nat} (hi : i < slots.length) (h : okSl jobs slots i = false) : isSched jobs slots = false := by
  have : (List.range slots.length).all (okSl jobs slots) = false := by rw [List.all_eq_false]; exact ⟨i, by simpa using hi, by simp [h]⟩
  simp [isSched, this]
theorem isSched_yes {jobs : List Jb} {slots : List Slt} (h : areJobs jobs = true) (hl : slots.length = stepsTo jobs jobs.length) (ha : ∀ i < slots.length, okSl jobs slots i = true) : isSched jobs slots = true := by
  have : (List.range slots.length).all (okSl jobs slots) = true := by rw [List.all_eq_true]; intro x hx; exact ha x (by simpa using hx)
  unfold isSched; rw [this, h, decide_eq_true hl]; rfl
theorem okSl_fit {jobs : List Jb} {slots : List Slt} {i : Nat} (hi : i < slots.length) (h : fit jobs slots[i] = false) : okSl jobs slots i = false := by
  unfold okSl; rw [sl_getD _ _ hi, h]; rfl
theorem okSl_clash {jobs : List Jb} {slots : List Slt} {i k : Nat} (hi : i < slots.length) (hk : k < i) (h : clashJ slots[i] slots[k] = true ∨ clashC slots[i] slots[k] = true) : okSl jobs slots i = false := by
  have : ((List.range i).all fun k => !clashJ (slots.getD i slNone) (slots.getD k slNone) && !clashC (slots.getD i slNone) (slots.getD k slNone)) = false := by
    rw [List.all_eq_false]
    refine ⟨k, by simpa using hk, ?_⟩
    rw [sl_getD _ _ hi, sl_getD _ _ (by omega)]
    rcases h with h | h <;> simp [h]
  unfold okSl; rw [this, Bool.and_false]
theorem okSl_yes {jobs : List Jb} {slots : List Slt} {i : Nat} (hi : i < slots.length) (h : fit jobs slots[i] = true) (hc : ∀ k (hk : k < i), clashJ slots[i] (slots[k]'(by omega)) = false ∧ clashC slots[i] (slots[k]'(by omega)) = false) : okSl jobs slots i = true := by
  have : ((List.range i).all fun k => !clashJ (slots.getD i slNone) (slots.getD k slNone) && !clashC (slots.getD i slNone) (slots.getD k slNone)) = true := by
    rw [List.all_eq_true]
    intro k hk
    have hk2 : k < i := by simpa using hk
    rw [sl_getD _ _ hi, sl_getD _ _ (by omega), (hc k hk2).1, (hc k hk2).2]; rfl
  unfold okSl
  rw [sl_getD _ _ hi, h]
  rw [sl_getD _ _ hi] at this
  rw [this]; rfl
theorem fit_of {jobs : List Jb} {x : Slt} {jn sn : Nat} (hj : x.1 = (jn : Int)) (hjl : jn < jobs.length) (hs : x.2.1 = (sn : Int)) (hsl : sn < jobs[jn].2.2.length) :
    fit jobs x = (inB x.2.2.2.1 jobs[jn].1 1000000 && ((x.2.2.1.toList == jobs[jn].2.2[sn].1.toList) && decide (x.2.2.2.2 = x.2.2.2.1 + jobs[jn].2.2[sn].2))) := by
  have e1 : jobOf jobs x = jobs[jn] := by unfold jobOf; rw [hj, Int.toNat_natCast, jb_getD _ _ hjl]
  have e2 : workOf jobs x = jobs[jn].2.2[sn] := by unfold workOf; rw [e1, hs, Int.toNat_natCast, wk_getD _ _ hsl]
  unfold fit
  rw [e1, e2, hj, hs, inB_iff.2 (by omega), inB_iff.2 (by omega)]; rfl
theorem fit_job {jobs : List Jb} {x : Slt} (h : inB x.1 0 ((jobs.length : Int) - 1) = false) : fit jobs x = false := by unfold fit; rw [h]; rfl
theorem fit_step {jobs : List Jb} {x : Slt} {jn : Nat} (hj : x.1 = (jn : Int)) (hjl : jn < jobs.length) (h : inB x.2.1 0 ((jobs[jn].2.2.length : Int) - 1) = false) : fit jobs x = false := by
  have e1 : jobOf jobs x = jobs[jn] := by unfold jobOf; rw [hj, Int.toNat_natCast, jb_getD _ _ hjl]
  unfold fit; rw [e1, h, Bool.false_and, Bool.and_false]
end Go.Proofs.Ytmkfinahbelpdaa
