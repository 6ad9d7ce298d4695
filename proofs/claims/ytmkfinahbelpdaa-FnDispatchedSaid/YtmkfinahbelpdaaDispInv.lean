/- Dispatching: what holds of the slots that are begun, whatever the rule (plain). -/
import Derived.Test.YtmkfinahbelpdaaSchedEnd
import Derived.Test.YtmkfinahbelpdaaDispPlain
import Derived.Test.YtmkfinahbelpdaaWorkMap
namespace Go.Proofs.Ytmkfinahbelpdaa
open Go.RowKit
def lastTo (jobs : List Jb) : Nat → Int
  | 0 => 0
  | k + 1 => max (lastTo jobs k) (jobs.getD k jbNone).1
def workTo (jobs : List Jb) : Nat → Int
  | 0 => 0
  | k + 1 => workTo jobs k + beforeN (jobs.getD k jbNone).2.2 (jobs.getD k jbNone).2.2.length
/-- The minutes of all steps that are begun. -/
def doneW : List Jb → List Nat → Int
  | j :: jobs, x :: nx => beforeN j.2.2 x + doneW jobs nx
  | _, _ => 0
theorem doneW_set : ∀ (jobs : List Jb) (nx : List Nat) (q : Nat) (h1 : q < nx.length) (h2 : q < jobs.length) (_ : nx[q] < jobs[q].2.2.length), doneW jobs (nx.set q (nx[q] + 1)) = doneW jobs nx + (jobs[q].2.2[nx[q]]).2
  | [], _, _, _, h2, _ => by simp at h2
  | _ :: _, [], _, h1, _, _ => by simp at h1
  | j :: jobs, x :: nx, 0, _, _, h3 => by
    simp only [List.getElem_cons_zero] at h3 ⊢
    simp only [List.set_cons_zero, doneW, beforeN]
    rw [wk_getD _ _ h3]; omega
  | j :: jobs, x :: nx, q + 1, h1, h2, h3 => by
    have := doneW_set jobs nx q (by simpa using h1) (by simpa using h2) (by simpa using h3)
    simp only [List.getElem_cons_succ, List.set_cons_succ, doneW]
    rw [this]; omega
theorem beforeN_mono {l : List Wk} (h : MinOk l) (k d : Nat) : beforeN l k ≤ beforeN l (k + d) := by
  induction d with
  | zero => exact Int.le_refl _
  | succ d ih => have := (h.at_ (k + d)).1; rw [show k + (d + 1) = (k + d) + 1 by omega]; simp only [beforeN]; omega
def workW : List Jb → Int
  | [] => 0
  | j :: jobs => beforeN j.2.2 j.2.2.length + workW jobs
theorem workW_snoc (l : List Jb) (j : Jb) : workW (l ++ [j]) = workW l + beforeN j.2.2 j.2.2.length := by
  induction l with
  | nil => simp [workW]
  | cons a l ih => simp only [List.cons_append, workW, ih]; omega
theorem workTo_eq (jobs : List Jb) (k : Nat) (hk : k ≤ jobs.length) : workTo jobs k = workW (jobs.take k) := by
  induction k with
  | zero => rfl
  | succ k ih =>
    rw [List.take_succ_eq_append_getElem (by omega), workW_snoc, ← ih (by omega)]
    simp only [workTo]
    rw [jb_getD _ _ (by omega)]
theorem doneW_le : ∀ (jobs : List Jb) (nx : List Nat), NextOk jobs nx → (∀ j ∈ jobs, MinOk j.2.2) → 0 ≤ doneW jobs nx ∧ doneW jobs nx ≤ workW jobs
  | [], [], _, _ => by simp [doneW, workW]
  | [], _ :: _, h, _ => by have := h.1; simp at this
  | _ :: _, [], h, _ => by have := h.1; simp at this
  | j :: jobs, x :: nx, h, hm => by
    have h0 : x ≤ j.2.2.length := h.2 0 (by simp) (by simp)
    have h1 : NextOk jobs nx := ⟨by have := h.1; simpa using this, fun k h1 h2 => h.2 (k + 1) (by simpa using h1) (by simpa using h2)⟩
    have h2 := doneW_le jobs nx h1 (fun a ha => hm a (List.mem_cons_of_mem _ ha))
    have h3 := hm j (List.mem_cons_self ..)
    have h4 := beforeN_mono h3 x (j.2.2.length - x)
    have h5 := (beforeN_bd h3 x).1
    rw [show x + (j.2.2.length - x) = j.2.2.length by omega] at h4
    simp only [doneW, workW]
    omega
theorem workW_bd {jobs : List Jb} (hm : ∀ j ∈ jobs, MinOk j.2.2) : 0 ≤ workW jobs ∧ workW jobs ≤ 5000 * jobs.length := by
  induction jobs with
  | nil => simp [workW]
  | cons j jobs ih =>
    have h1 := ih (fun a ha => hm a (List.mem_cons_of_mem _ ha))
    have h2 := hm j (List.mem_cons_self ..)
    have h3 := beforeN_bd h2 j.2.2.length
    have h4 := h2.1
    simp only [workW, List.length_cons]
    omega
theorem lastTo_bd {jobs : List Jb} (h : areJobs jobs = true) (k : Nat) (hk : k ≤ jobs.length) : 0 ≤ lastTo jobs k ∧ lastTo jobs k ≤ 100000 ∧ ∀ j (hj : j < k), (jobs[j]'(by omega)).1 ≤ lastTo jobs k := by
  induction k with
  | zero => exact ⟨Int.le_refl _, by simp [lastTo], fun j hj => by omega⟩
  | succ k ih =>
    obtain ⟨i1, i2, i3⟩ := ih (by omega)
    have h1 := (areJobs_parts h).2 k (by omega)
    simp only [lastTo]
    rw [jb_getD _ _ (by omega)]
    refine ⟨by omega, by omega, fun j hj => ?_⟩
    by_cases e : j = k
    · subst e; omega
    · have := i3 j (by omega); omega
theorem doneW_zero : ∀ jobs : List Jb, doneW jobs (List.replicate jobs.length 0) = 0
  | [] => rfl
  | j :: jobs => by
    have := doneW_zero jobs
    simp only [List.length_cons, List.replicate_succ, doneW, beforeN, this]; rfl
theorem okSl_snoc {jobs : List Jb} {out : List Slt} {x : Slt} {i : Nat} (hi : i < out.length) : okSl jobs (out ++ [x]) i = okSl jobs out i := by
  have e : ∀ k, k < out.length → (out ++ [x]).getD k slNone = out.getD k slNone := fun k hk => by
    rw [List.getD_eq_getElem?_getD, List.getD_eq_getElem?_getD, List.getElem?_append_left hk]
  unfold okSl
  rw [e i hi]
  congr 1
  rw [Bool.eq_iff_iff, List.all_eq_true, List.all_eq_true]
  constructor
  · intro h k hk
    have := h k hk
    rw [e k (by have := List.mem_range.1 hk; omega)] at this
    exact this
  · intro h k hk
    rw [e k (by have := List.mem_range.1 hk; omega)]
    exact h k hk
/-- What holds of the slots begun, the next steps, when jobs are ready and centers free. -/
structure DispInv (jobs : List Jb) (out : List Slt) (nx : List Nat) (rd : List Int) (fr : ByteArray → Int) : Prop where
  next : NextOk jobs nx
  len : out.length = nx.sum
  rdlen : rd.length = jobs.length
  ok : ∀ i < out.length, okSl jobs out i = true
  step : ∀ i (hi : i < out.length) (a : Nat), out[i].1 = (a : Int) → ∀ (h : a < nx.length), out[i].2.1 < (nx[a] : Int)
  endJ : ∀ i (hi : i < out.length) (a : Nat), out[i].1 = (a : Int) → ∀ (h : a < rd.length), out[i].2.2.2.2 ≤ rd[a]
  endC : ∀ i (hi : i < out.length) (c : ByteArray), (out[i].2.2.1.toList == c.toList) = true → out[i].2.2.2.2 ≤ fr c
  rel : ∀ k (h1 : k < rd.length) (h2 : k < jobs.length), jobs[k].1 ≤ rd[k]
  rdle : ∀ x ∈ rd, x ≤ lastTo jobs jobs.length + doneW jobs nx
  frle : ∀ c, 0 ≤ fr c ∧ fr c ≤ lastTo jobs jobs.length + doneW jobs nx
  top : ∀ i (hi : i < out.length), out[i].2.2.2.2 ≤ lastTo jobs jobs.length + doneW jobs nx
theorem DispInv.zero {jobs : List Jb} (h : areJobs jobs = true) : DispInv jobs [] (List.replicate jobs.length 0) (jobs.map (·.1)) (fun _ => 0) := by
  have hl := lastTo_bd h jobs.length (Nat.le_refl _)
  refine ⟨NextOk.zero jobs, by simp, by simp, fun i hi => by simp at hi, fun i hi => by simp at hi, fun i hi => by simp at hi, fun i hi => by simp at hi, fun k h1 h2 => by simp, fun x hx => ?_, fun c => ?_, fun i hi => by simp at hi⟩
  · obtain ⟨j, hj, rfl⟩ := List.mem_map.1 hx
    obtain ⟨k, hk, rfl⟩ := List.mem_iff_getElem.1 hj
    rw [doneW_zero]
    have := hl.2.2 k hk
    omega
  · rw [doneW_zero]
    have := hl.1
    omega
theorem DispInv.more {jobs : List Jb} {out : List Slt} {nx : List Nat} {rd : List Int} {fr : ByteArray → Int} (h : DispInv jobs out nx rd fr) (hj : areJobs jobs = true) {q : Nat} (h1 : q < nx.length) (h2 : q < jobs.length) (h3 : nx[q] < jobs[q].2.2.length) (h4 : q < rd.length) (st : Int) (hst : st = max rd[q] (fr jobs[q].2.2[nx[q]].1)) (fr' : ByteArray → Int) (hfr : ∀ s, fr' s = if kl s = kl jobs[q].2.2[nx[q]].1 then st + jobs[q].2.2[nx[q]].2 else fr s) :
    DispInv jobs (out ++ [((q : Int), (nx[q] : Int), jobs[q].2.2[nx[q]].1, st, st + jobs[q].2.2[nx[q]].2)]) (nx.set q (nx[q] + 1)) (rd.set q (st + jobs[q].2.2[nx[q]].2)) fr' := by
  have hp := (areJobs_parts hj).2 q h2
  have hmin := hp.2.2.2.2.2 _ h3
  have hm : ∀ j ∈ jobs, MinOk j.2.2 := fun j hjj => by
    obtain ⟨k, hk, rfl⟩ := List.mem_iff_getElem.1 hjj
    have := (areJobs_parts hj).2 k hk
    exact ⟨this.2.2.2.2.1, this.2.2.2.2.2⟩
  have hrel := h.rel q h4 h2
  have hdw := doneW_set jobs nx q h1 h2 h3
  have hrq := h.rdle _ (List.getElem_mem h4)
  have hfq := h.frle jobs[q].2.2[nx[q]].1
  have hlast := lastTo_bd hj jobs.length (Nat.le_refl _)
  have hdle := doneW_le jobs nx h.next hm
  have hwbd := workW_bd hm
  have hjl := (areJobs_parts hj).1
  have hcl : ∀ i (hi : i < out.length), clashJ ((q : Int), (nx[q] : Int), jobs[q].2.2[nx[q]].1, st, st + jobs[q].2.2[nx[q]].2) out[i] = false ∧ clashC ((q : Int), (nx[q] : Int), jobs[q].2.2[nx[q]].1, st, st + jobs[q].2.2[nx[q]].2) out[i] = false := fun i hi => by
    refine clash_no ?_ ?_
    · by_cases e : out[i].1 = (q : Int)
      · right
        have e1 := h.step i hi q e h1
        have e2 := h.endJ i hi q e h4
        dsimp only
        omega
      · exact .inl e
    · by_cases e : (out[i].2.2.1.toList == jobs[q].2.2[nx[q]].1.toList) = true
      · right
        have e1 := h.endC i hi _ e
        dsimp only
        omega
      · exact .inl (by simpa using e)
  refine ⟨h.next.step h1 h2 h3, ?_, by simp [h.rdlen], ?_, ?_, ?_, ?_, ?_, ?_, ?_, ?_⟩
  · rw [sum_set nx q h1, List.length_append, h.len]; rfl
  · intro i hi
    simp only [List.length_append, List.length_cons, List.length_nil] at hi
    by_cases hlt : i < out.length
    · rw [okSl_snoc hlt]; exact h.ok i hlt
    · obtain rfl : i = out.length := by omega
      refine okSl_yes (by simp) ?_ ?_
      · rw [List.getElem_append_right (Nat.le_refl _)]
        simp only [Nat.sub_self, List.getElem_cons_zero]
        rw [fit_of (jn := q) (sn := nx[q]) rfl h2 rfl h3, inB_iff.2 (by dsimp only; omega)]
        simp
      · intro k hk
        rw [List.getElem_append_right (Nat.le_refl _), List.getElem_append_left hk]
        simp only [Nat.sub_self, List.getElem_cons_zero]
        exact hcl k hk
  · intro i hi a ha hal
    simp only [List.length_append, List.length_cons, List.length_nil] at hi
    rw [List.getElem_set]
    by_cases hlt : i < out.length
    · rw [List.getElem_append_left hlt] at ha ⊢
      have := h.step i hlt a ha (by simpa using hal)
      split
      · next e => subst e; omega
      · exact this
    · obtain rfl : i = out.length := by omega
      rw [List.getElem_append_right (Nat.le_refl _)] at ha ⊢
      simp only [Nat.sub_self, List.getElem_cons_zero] at ha ⊢
      rw [if_pos (by omega)]; omega
  · intro i hi a ha hal
    simp only [List.length_append, List.length_cons, List.length_nil] at hi
    rw [List.getElem_set]
    by_cases hlt : i < out.length
    · rw [List.getElem_append_left hlt] at ha ⊢
      have := h.endJ i hlt a ha (by simpa using hal)
      split
      · next e => subst e; omega
      · exact this
    · obtain rfl : i = out.length := by omega
      rw [List.getElem_append_right (Nat.le_refl _)] at ha ⊢
      simp only [Nat.sub_self, List.getElem_cons_zero] at ha ⊢
      rw [if_pos (by omega)]; exact Int.le_refl _
  · intro i hi c hc
    simp only [List.length_append, List.length_cons, List.length_nil] at hi
    rw [hfr]
    by_cases hlt : i < out.length
    · rw [List.getElem_append_left hlt] at hc ⊢
      have e1 := h.endC i hlt c hc
      split
      · next e =>
        have e2 : (out[i].2.2.1.toList == jobs[q].2.2[nx[q]].1.toList) = true := by rw [kl_bool] at hc ⊢; rw [hc, e]
        have := h.endC i hlt _ e2
        omega
      · exact e1
    · obtain rfl : i = out.length := by omega
      rw [List.getElem_append_right (Nat.le_refl _)] at hc ⊢
      simp only [Nat.sub_self, List.getElem_cons_zero] at hc ⊢
      rw [if_pos (kl_bool.1 hc).symm]; exact Int.le_refl _
  · intro k hk1 hk2
    rw [List.getElem_set]
    have := h.rel k (by simpa using hk1) hk2
    split
    · next e => subst e; omega
    · exact this
  · intro x hx
    rw [hdw]
    rcases List.mem_or_eq_of_mem_set hx with hx | rfl
    · have := h.rdle x hx; omega
    · omega
  · intro c
    rw [hfr, hdw]
    have := h.frle c
    split <;> omega
  · intro i hi
    simp only [List.length_append, List.length_cons, List.length_nil] at hi
    rw [hdw]
    by_cases hlt : i < out.length
    · rw [List.getElem_append_left hlt]
      have := h.top i hlt
      omega
    · obtain rfl : i = out.length := by omega
      rw [List.getElem_append_right (Nat.le_refl _)]
      simp only [Nat.sub_self, List.getElem_cons_zero]
      omega
theorem stepsTo_tot (jobs : List Jb) (k : Nat) (hk : k ≤ jobs.length) : stepsTo jobs k = totN (jobs.take k) := by
  induction k with
  | zero => rfl
  | succ k ih =>
    rw [List.take_succ_eq_append_getElem (by omega)]
    simp only [stepsTo, totN, List.map_append, List.sum_append, List.map_cons, List.map_nil, List.sum_cons, List.sum_nil]
    rw [jb_getD _ _ (by omega), ih (by omega)]; simp only [totN]; omega
theorem full_sum : ∀ (jobs : List Jb) (nx : List Nat), nx.length = jobs.length → (∀ k (h1 : k < nx.length) (h2 : k < jobs.length), nx[k] = jobs[k].2.2.length) → nx.sum = totN jobs
  | [], [], _, _ => rfl
  | [], _ :: _, h, _ => by simp at h
  | _ :: _, [], h, _ => by simp at h
  | j :: jobs, x :: nx, h, hf => by
    have h0 : x = j.2.2.length := hf 0 (by simp) (by simp)
    have h1 := full_sum jobs nx (by simpa using h) (fun k h1 h2 => hf (k + 1) (by simpa using h1) (by simpa using h2))
    simp only [totN, List.map_cons, List.sum_cons] at h1 ⊢
    omega
theorem DispInv.done {jobs : List Jb} {out : List Slt} {nx : List Nat} {rd : List Int} {fr : ByteArray → Int} (h : DispInv jobs out nx rd fr) (hj : areJobs jobs = true) (hf : ∀ k (h1 : k < nx.length) (h2 : k < jobs.length), nx[k] = jobs[k].2.2.length) :
    isSched jobs out = true ∧ makespanOf out ≤ lastTo jobs jobs.length + workTo jobs jobs.length := by
  have hm : ∀ j ∈ jobs, MinOk j.2.2 := fun j hjj => by
    obtain ⟨k, hk, rfl⟩ := List.mem_iff_getElem.1 hjj
    have := (areJobs_parts hj).2 k hk
    exact ⟨this.2.2.2.2.1, this.2.2.2.2.2⟩
  have hdle := doneW_le jobs nx h.next hm
  have hlast := lastTo_bd hj jobs.length (Nat.le_refl _)
  refine ⟨isSched_yes hj ?_ h.ok, ?_⟩
  · rw [h.len, full_sum jobs nx h.next.1 hf, stepsTo_tot jobs jobs.length (Nat.le_refl _), List.take_length]
  · rw [workTo_eq jobs jobs.length (Nat.le_refl _), List.take_length]
    have key : ∀ k, k ≤ out.length → makespanTo out k ≤ lastTo jobs jobs.length + workW jobs := by
      intro k
      induction k with
      | zero => intro _; simp only [makespanTo, List.take_zero, List.foldl_nil]; omega
      | succ k ih =>
        intro hk
        rw [makespanTo_succ _ _ (by omega)]
        have h3 := ih (by omega)
        have h4 := h.top k (by omega)
        omega
    exact key _ (Nat.le_refl _)
end Go.Proofs.Ytmkfinahbelpdaa
