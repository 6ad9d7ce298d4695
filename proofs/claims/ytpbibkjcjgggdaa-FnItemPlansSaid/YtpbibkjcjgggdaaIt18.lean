/- Part 18 of the texts of this claim: The orders of an item cover its needs (plain). -/
import Derived.Test.YtpbibkjcjgggdaaIt4
import Derived.Test.YtpbibkjcjgggdaaIt5
import Derived.Test.YtpbibkjcjgggdaaIt17
/- The orders of an item cover its needs (plain). -/
namespace Go.Proofs.Ytpbibkjcjgggdaa
theorem upTo_mono (l : List Fl) (d e : Int) (h : ∀ f ∈ l, 0 ≤ f.2) (hde : d ≤ e) : upTo l d ≤ upTo l e := by
  induction l with
  | nil => simp [upTo]
  | cons f t ih =>
    have h1 := ih (fun g hg => h g (List.mem_cons_of_mem _ hg))
    have h2 := h f List.mem_cons_self
    simp only [upTo]
    split
    · rw [if_pos (by omega)]; omega
    · split <;> omega
theorem days_cut (needs : List Fl) (ha : ascends needs) (e : Int) : ∀ n, n ≤ needs.length → ∃ k, k ≤ n ∧ (∀ j (hj : j < needs.length), j < k → needs[j].1 ≤ e) ∧ (∀ j (hj : j < needs.length), k ≤ j → j < n → e < needs[j].1) := by
  intro n
  induction n with
  | zero => intro _; exact ⟨0, by omega, fun j _ h => by omega, fun j _ _ h => by omega⟩
  | succ n ih =>
    intro hn
    obtain ⟨k, h1, h2, h3⟩ := ih (by omega)
    by_cases hc : needs[n].1 ≤ e
    · refine ⟨n + 1, by omega, fun j hj hjn => ?_, fun j _ _ _ => by omega⟩
      rcases Nat.lt_or_ge j n with h | h
      · have := ha j n (by omega) h; omega
      · obtain rfl : j = n := by omega
        exact hc
    · refine ⟨k, by omega, h2, fun j hj hkj hjn => ?_⟩
      rcases Nat.lt_or_ge j n with h | h
      · exact h3 j hj hkj h
      · obtain rfl : j = n := by omega
        omega
theorem lots_cover {needs : List Fl} {rule size : Int} (h0 : lotRule rule size = true) (h1 : areFlows needs = true) (h2 : areFlows (lotTo rule size needs needs.length).1 = true) (e : Int) : upTo needs e ≤ upTo (lotTo rule size needs needs.length).1 e := by
  have ha := areFlows_ascends h1
  have hp : ∀ f ∈ (lotTo rule size needs needs.length).1, 0 ≤ f.2 := fun f hf => by have := (areFlows_mem h2 f hf).2.1; omega
  obtain ⟨k, hk, k1, k2⟩ := days_cut needs ha e needs.length (Nat.le_refl _)
  have hs : upTo needs e = upTo (needs.take k) e + upTo (needs.drop k) e := by rw [← upTo_append, List.take_append_drop]
  rw [hs, upTo_late (needs.drop k) e ?_]
  · rcases Nat.eq_zero_or_pos k with h | h
    · subst h
      have := upTo_mono _ (-1) e hp
      have hz : 0 ≤ upTo (lotTo rule size needs needs.length).1 e := upTo_nonneg _ _ (fun f hf => (areFlows_mem h2 f hf).2.1)
      simp [upTo]; exact hz
    · have hi : k - 1 < needs.length := by omega
      have hl := (lots_each h0 h1 h2 (k - 1) hi).1
      rw [lots_spare h1 h2 (k - 1) hi, show k - 1 + 1 = k by omega] at hl
      have hm := upTo_mono _ (needs[k - 1]).1 e hp (k1 (k - 1) hi (by omega))
      rw [upTo_all (needs.take k) e ?_]
      · omega
      · intro f hf
        obtain ⟨j, hj, rfl⟩ := List.mem_iff_getElem.1 hf
        rw [List.length_take] at hj
        rw [List.getElem_take]
        exact k1 j (by omega) (by omega)
  · intro f hf
    obtain ⟨j, hj, rfl⟩ := List.mem_iff_getElem.1 hf
    rw [List.length_drop] at hj
    rw [List.getElem_drop]
    exact k2 (k + j) (by omega) (by omega) (by omega)
/-- What has come with the first orders: at least the receipts and the lots. -/
def comes (rcv lots : List Fl) (k : Nat) (c : List Fl) : Prop := areFlows c = true ∧ ∀ e, upTo rcv e + upTo (lots.take k) e ≤ upTo c e
theorem comes_zero {rcv : List Fl} (lots : List Fl) (h : areFlows rcv = true) : comes rcv lots 0 rcv := ⟨h, fun e => by simp [upTo]⟩
theorem comes_succ {rcv lots c next : List Fl} {k : Nat} (hk : k < lots.length) (h : comes rcv lots k c) {good : Int} (hg : lots[k].2 ≤ good) (hm : mergeFlows c [(lots[k].1, good)] = (next, true)) : comes rcv lots (k + 1) next := by
  have h1 : areFlows next = true := by have := mergeFlows_flows c [(lots[k].1, good)]; rw [hm] at this; exact this
  have h2 := fun e => mergeFlows_upTo (a := c) (b := [(lots[k].1, good)]) (by rw [hm]) e
  have h3 : areFlows [(lots[k].1, good)] = true := by
    unfold mergeFlows at hm
    split at hm
    · rename_i hc
      simp only [Bool.and_eq_true] at hc
      exact hc.1.2
    · simp at hm
  refine ⟨h1, fun e => ?_⟩
  have h4 := h2 e
  rw [hm, flowUpTo_yes h1, flowUpTo_yes h.1, flowUpTo_yes h3] at h4
  have h5 := h.2 e
  rw [upTo_take _ _ _ hk]
  simp only [upTo] at h4
  split at h4
  · next hc => rw [if_pos hc]; omega
  · next hc => rw [if_neg hc]; omega
theorem comes_covered {rcv dem m lots c : List Fl} {stock safety rule size : Int} (hn : netNeeds rcv dem stock safety = (m, true)) (hl : lotsFor m rule size = (lots, true)) (h : comes rcv lots lots.length c) : isCovered c dem stock safety = true := by
  obtain ⟨h1, h2, h3, h4, h5, h6⟩ := netNeeds_all hn
  have hcov : ∀ e, upTo m e ≤ upTo lots e := by
    unfold lotsFor at hl
    split at hl
    · rename_i hc
      simp only [Bool.and_eq_true] at hc
      simp only [Prod.mk.injEq, and_true] at hl
      subst hl
      exact fun e => lots_cover hc.1.1 hc.1.2 hc.2 e
    · simp at hl
  obtain ⟨g1, g2⟩ := h
  refine isCovered_yes h1 h2 g1 h4 (fun k hk => ?_)
  have e1 := g2 k
  rw [List.take_length] at e1
  have e2 := hcov k
  have e3 := net_enough (rcv := rcv) (dem := dem) (stock := stock) (safety := safety) k
  have e4 := net_upTo (rcv := rcv) (dem := dem) (stock := stock) (safety := safety) k 1000 (by omega)
  rw [← h6] at e4
  rw [projected_yes h1 g1 h4, flowUpTo_yes g1]
  rw [projected_yes h1 h3 h4, flowUpTo_yes h3] at e3
  omega
/-- What is good of an order is no less than its lot. -/
theorem good_lot {x : It} {f : Fl} (hx : isItem x = true) (h1 : 1 ≤ f.2) (h2 : f.2 ≤ 1000000000) (hs : smallF x f = true) : f.2 ≤ (netOf x (grossOf x f.2).1).1 ∧ 1 ≤ (grossOf x f.2).1 ∧ (grossOf x f.2).1 ≤ 100000 := by
  unfold smallF at hs
  rw [decide_eq_true_eq] at hs
  rw [grossOf_yes hx (inB_iff.2 ⟨by omega, h2⟩)] at hs ⊢
  simp only at hs ⊢
  obtain ⟨_, _, _, _, _, h6, _⟩ := isItem_lots x hx
  have hg := gross_net (q := f.2) (s := x.2.2.2.2.2.2.2) (by omega) h6.1 h6.2
  have hge : 1 ≤ grossQ f.2 x.2.2.2.2.2.2.2 := by
    rcases Int.lt_or_le 0 (grossQ f.2 x.2.2.2.2.2.2.2) with h | h
    · omega
    · exfalso
      have : grossQ f.2 x.2.2.2.2.2.2.2 * (100 - x.2.2.2.2.2.2.2) ≤ 0 := Int.mul_nonpos_of_nonpos_of_nonneg h (by omega)
      omega
  rw [netOf_yes hx (inB_iff.2 ⟨by omega, by omega⟩)]
  exact ⟨hg, hge, hs⟩
end Go.Proofs.Ytpbibkjcjgggdaa
