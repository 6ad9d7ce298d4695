/- What net needs are: with them all is covered, on their days just so, and with one piece less it is not. -/
import Derived.Test.YtdofhdelcendeaaNet
import Derived.Test.YtdofhdelcendeaaMergedPlain
import Derived.Test.YtdofhdelcendeaaPegsLaw
namespace Go.Proofs.Ytdofhdelcendeaa
section
variable {rcv dem : List Fl} {stock safety : Int}
theorem net_sum (k : Nat) : fSum (netTo rcv dem stock safety k).1 = (netTo rcv dem stock safety k).2 := by
  induction k with
  | zero => simp [netTo, fSum]
  | succ k ih =>
    rw [netTo_succ]
    split
    · simp only [fSum_append, fSum, ih]; omega
    · exact ih
theorem net_days (k : Nat) : ∀ f ∈ (netTo rcv dem stock safety k).1, ∃ e : Nat, e < k ∧ f.1 = (e : Int) ∧ projected rcv dem stock e + (netTo rcv dem stock safety (e + 1)).2 = safety := by
  induction k with
  | zero => intro f hf; simp [netTo] at hf
  | succ k ih =>
    have hmore : ∀ f ∈ (netTo rcv dem stock safety k).1, ∃ e : Nat, e < k + 1 ∧ f.1 = (e : Int) ∧ projected rcv dem stock e + (netTo rcv dem stock safety (e + 1)).2 = safety := fun f hf => by
      obtain ⟨e, h1, h2⟩ := ih f hf
      exact ⟨e, by omega, h2⟩
    intro f hf
    have hs := netTo_succ rcv dem stock safety k
    rw [hs] at hf
    by_cases hc : 0 < safety - projected rcv dem stock k - (netTo rcv dem stock safety k).2
    · rw [if_pos hc] at hf hs
      rcases List.mem_append.1 hf with h | h
      · exact hmore f h
      · have he : f = ((k : Int), safety - projected rcv dem stock k - (netTo rcv dem stock safety k).2) := by simpa using h
        refine ⟨k, by omega, by rw [he], ?_⟩
        rw [hs]; simp only; omega
    · rw [if_neg hc] at hf
      exact hmore f hf
theorem net_upTo (e k : Nat) (h : e + 1 ≤ k) : upTo (netTo rcv dem stock safety k).1 e = (netTo rcv dem stock safety (e + 1)).2 := by
  induction k with
  | zero => omega
  | succ k ih =>
    rcases Nat.lt_or_ge e k with hlt | hge
    · rw [netTo_succ]
      split
      · rw [upTo_append, ih (by omega)]
        simp only [upTo]
        rw [if_neg (by omega)]; omega
      · exact ih (by omega)
    · obtain rfl : e = k := by omega
      rw [upTo_all _ _ (fun f hf => by obtain ⟨j, h1, h2, _⟩ := net_days (e + 1) f hf; omega), net_sum]
theorem net_enough (e : Nat) : safety ≤ projected rcv dem stock e + (netTo rcv dem stock safety (e + 1)).2 := by
  rw [netTo_succ]
  split
  · simp only; omega
  · omega
theorem net_nil (k : Nat) : (netTo rcv dem stock safety k).1 = [] ↔ ∀ e : Nat, e < k → safety ≤ projected rcv dem stock e := by
  constructor
  · intro h e he
    have h1 := net_enough (rcv := rcv) (dem := dem) (stock := stock) (safety := safety) e
    have h2 := net_upTo (rcv := rcv) (dem := dem) (stock := stock) (safety := safety) e k he
    rw [h] at h2
    simp only [upTo] at h2
    omega
  · intro h
    induction k with
    | zero => rfl
    | succ k ih =>
      have h1 := ih (fun e he => h e (by omega))
      have h2 := net_sum (rcv := rcv) (dem := dem) (stock := stock) (safety := safety) k
      rw [h1] at h2
      simp only [fSum] at h2
      have h3 := h k (by omega)
      rw [netTo_succ, if_neg (by omega)]
      exact h1
/-- All that a guard of net needs says. -/
theorem netNeeds_all {m : List Fl} (h : netNeeds rcv dem stock safety = (m, true)) : inB stock 0 1000000000 = true ∧ inB safety 0 1000000000 = true ∧ areFlows rcv = true ∧ areFlows dem = true ∧ areFlows m = true ∧ m = (netTo rcv dem stock safety 1000).1 := by
  unfold netNeeds at h
  split at h
  · rename_i hc
    simp only [Bool.and_eq_true] at hc
    simp only [Prod.mk.injEq, and_true] at h
    subst h
    exact ⟨hc.1.1, hc.1.2.1, hc.1.2.2.1, hc.1.2.2.2, hc.2, rfl⟩
  · simp at h
theorem netNeeds_nil (h : (netNeeds rcv dem stock safety).2 = false) : (netNeeds rcv dem stock safety).1 = [] := by
  unfold netNeeds at h ⊢
  split at h
  · simp at h
  · rename_i hc
    rw [if_neg hc]
/-- What there is with other flows beside the receipts. -/
theorem projected_merged {m all : List Fl} (hs : inB stock 0 1000000000 = true) (hr : areFlows rcv = true) (hd : areFlows dem = true) (h : mergeFlows rcv m = (all, true)) (e : Int) : areFlows m = true ∧ areFlows all = true ∧ projected all dem stock e = projected rcv dem stock e + upTo m e := by
  have h1 : areFlows all = true := by have := mergeFlows_flows rcv m; rw [h] at this; exact this
  have h2 := mergeFlows_upTo (a := rcv) (b := m) (by rw [h]) e
  rw [h] at h2
  have hm : areFlows m = true := by
    unfold mergeFlows at h
    split at h
    · rename_i hc
      simp only [Bool.and_eq_true] at hc
      exact hc.1.2
    · simp at h
  simp only at h2
  rw [projected_yes hs h1 hd, projected_yes hs hr hd, h2, flowUpTo_yes hm]
  exact ⟨hm, h1, by omega⟩
theorem net_covered {m all : List Fl} (h : netNeeds rcv dem stock safety = (m, true)) (hm : mergeFlows rcv m = (all, true)) : isCovered all dem stock safety = true := by
  obtain ⟨h1, h2, h3, h4, h5, h6⟩ := netNeeds_all h
  refine isCovered_yes h1 h2 (projected_merged h1 h3 h4 hm 0).2.1 h4 (fun k hk => ?_)
  rw [(projected_merged h1 h3 h4 hm k).2.2, h6, net_upTo k 1000 (by omega)]
  exact net_enough k
theorem net_just {m all : List Fl} (h : netNeeds rcv dem stock safety = (m, true)) (hm : mergeFlows rcv m = (all, true)) : ∀ f ∈ m, projected all dem stock f.1 = safety := by
  obtain ⟨h1, h2, h3, h4, h5, h6⟩ := netNeeds_all h
  intro f hf
  have hf2 := hf
  rw [h6] at hf2
  obtain ⟨e, e1, e2, e3⟩ := net_days 1000 f hf2
  rw [(projected_merged h1 h3 h4 hm f.1).2.2, e2, h6, net_upTo e 1000 (by omega)]
  exact e3
theorem net_iff {m : List Fl} (h : netNeeds rcv dem stock safety = (m, true)) : isCovered rcv dem stock safety = decide (m.length = 0) := by
  obtain ⟨h1, h2, h3, h4, h5, h6⟩ := netNeeds_all h
  rw [Bool.eq_iff_iff, decide_eq_true_eq]
  constructor
  · intro hc
    have : m = [] := by
      rw [h6, net_nil]
      intro e he
      unfold isCovered at hc
      simp only [Bool.and_eq_true, List.all_eq_true, List.mem_range, decide_eq_true_eq] at hc
      exact hc.2 e he
    rw [this]; rfl
  · intro hl
    have hn : (netTo rcv dem stock safety 1000).1 = [] := by rw [← h6]; exact List.eq_nil_of_length_eq_zero hl
    exact isCovered_yes h1 h2 h3 h4 (fun k hk => (net_nil 1000).1 hn k hk)
/-- The needs less one piece of the i-th. -/
def lessOne (m : List Fl) (i : Nat) : List Fl := (if 1 < (m.getD i (0, 0)).2 then m.take i ++ [((m.getD i (0, 0)).1, (m.getD i (0, 0)).2 - 1)] else m.take i) ++ m.drop (i + 1)
theorem lessOne_upTo (m : List Fl) (i : Nat) (hi : i < m.length) (hq : 1 ≤ m[i].2) : upTo (lessOne m i) m[i].1 = upTo m m[i].1 - 1 := by
  have h1 : upTo m m[i].1 = upTo (m.take i) m[i].1 + (m[i].2 + upTo (m.drop (i + 1)) m[i].1) := by
    rw [upTo_split m _ i, List.drop_eq_getElem_cons hi]
    simp only [upTo, if_pos (Int.le_refl _)]
  unfold lessOne
  rw [getD_at _ _ _ hi, upTo_append]
  split
  · rw [upTo_append]
    simp only [upTo, if_pos (Int.le_refl _)]
    omega
  · omega
theorem net_less {m some : List Fl} (h : netNeeds rcv dem stock safety = (m, true)) (i : Nat) (hi : i < m.length) (hm : mergeFlows rcv (lessOne m i) = (some, true)) : isCovered some dem stock safety = false := by
  obtain ⟨h1, h2, h3, h4, h5, h6⟩ := netNeeds_all h
  have hf := List.getElem_mem hi
  have hq := (areFlows_mem h5 _ hf).2.1
  have hf2 : m[i] ∈ (netTo rcv dem stock safety 1000).1 := by rw [← h6]; exact hf
  obtain ⟨e, e1, e2, e3⟩ := net_days 1000 _ hf2
  refine isCovered_at e1 ?_
  have hl := lessOne_upTo m i hi hq
  rw [e2] at hl
  rw [(projected_merged h1 h3 h4 hm e).2.2, hl]
  have hu : upTo m (e : Int) = (netTo rcv dem stock safety (e + 1)).2 := by rw [h6, net_upTo e 1000 (by omega)]
  omega
end
end Go.Proofs.Ytdofhdelcendeaa
