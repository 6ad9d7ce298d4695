/- Dispatching jobs: how many steps are begun (plain). -/
import Derived.Test.YtmkfinahbelpdaaJobs
namespace Go.Proofs.Ytmkfinahbelpdaa
/-- Of each job, at most all steps are begun. -/
def NextOk (jobs : List Jb) (next : List Nat) : Prop := next.length = jobs.length ∧ ∀ k (h1 : k < next.length) (h2 : k < jobs.length), next[k] ≤ jobs[k].2.2.length
def totN (jobs : List Jb) : Nat := (jobs.map (fun j => j.2.2.length)).sum
theorem NextOk.sum_le : ∀ {jobs : List Jb} {next : List Nat}, NextOk jobs next → next.sum ≤ totN jobs
  | [], [], _ => Nat.le_refl _
  | [], _ :: _, h => by have := h.1; simp at this
  | _ :: _, [], _ => by simp
  | j :: jobs, x :: next, h => by
    have h0 : x ≤ j.2.2.length := h.2 0 (by simp) (by simp)
    have h1 : NextOk jobs next := ⟨by have := h.1; simpa using this, fun k h1 h2 => h.2 (k + 1) (by simpa using h1) (by simpa using h2)⟩
    have h2 := h1.sum_le
    simp only [totN, List.map_cons, List.sum_cons] at h2 ⊢
    omega
theorem totN_le : ∀ {jobs : List Jb}, (∀ j ∈ jobs, j.2.2.length ≤ 5) → totN jobs ≤ 5 * jobs.length
  | [], _ => by simp [totN]
  | j :: jobs, h => by
    have h0 := h j (List.mem_cons_self ..)
    have h1 := totN_le (jobs := jobs) (fun x hx => h x (List.mem_cons_of_mem _ hx))
    simp only [totN, List.map_cons, List.sum_cons, List.length_cons] at h1 ⊢
    omega
theorem sum_set : ∀ (next : List Nat) (k : Nat) (hk : k < next.length), (next.set k (next[k] + 1)).sum = next.sum + 1
  | [], _, hk => by simp at hk
  | x :: next, 0, _ => by simp; omega
  | x :: next, k + 1, hk => by
    have := sum_set next k (by simpa using hk)
    simp only [List.getElem_cons_succ, List.set_cons_succ, List.sum_cons] at this ⊢
    omega
theorem NextOk.step {jobs : List Jb} {next : List Nat} (h : NextOk jobs next) {k : Nat} (hk : k < next.length) (hk2 : k < jobs.length) (hlt : next[k] < jobs[k].2.2.length) : NextOk jobs (next.set k (next[k] + 1)) := by
  refine ⟨by simp [h.1], fun i h1 h2 => ?_⟩
  rw [List.getElem_set]
  by_cases e : k = i
  · subst e; rw [if_pos rfl]; omega
  · rw [if_neg e]; exact h.2 i (by simpa using h1) h2
theorem NextOk.zero (jobs : List Jb) : NextOk jobs (List.replicate jobs.length 0) := ⟨by simp, fun k h1 h2 => by simp⟩
end Go.Proofs.Ytmkfinahbelpdaa
