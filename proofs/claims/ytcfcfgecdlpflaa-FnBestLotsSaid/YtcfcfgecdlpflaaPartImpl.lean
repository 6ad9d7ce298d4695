/- The walk of the program's PartPeriod. -/
import Derived.Test.YtcfcfgecdlpflaaSum
import Derived.Test.YtcfcfgecdlpflaaLotCost
import Derived.Test.YtcfcfgecdlpflaaRowMore
namespace Go.Proofs.Ytcfcfgecdlpflaa
open Go.RowKit

theorem sumN_all {l : List Int} (hl : ∀ x ∈ l, 0 ≤ x ∧ x ≤ 1000) (k : Nat) : 0 ≤ sumN l k ∧ sumN l k ≤ 1000 * l.length := by
  induction k with
  | zero => simp only [sumN]; omega
  | succ k ih =>
    rcases Nat.lt_or_ge k l.length with h | h
    · have := sumN_bd hl (k + 1) (by omega); omega
    · simp only [sumN, List.getD_eq_getElem?_getD, List.getElem?_eq_none h, Option.getD_none]; omega
theorem seg_bd {l : List Int} (hl : ∀ x ∈ l, 0 ≤ x ∧ x ≤ 1000) (a b : Nat) : -(1000 * l.length) ≤ seg l a b ∧ seg l a b ≤ 1000 * l.length := by
  have h1 := sumN_all hl a
  have h2 := sumN_all hl b
  unfold seg; omega
theorem lots16_bd {l : List Int} (hl : ∀ x ∈ l, 0 ≤ x ∧ x ≤ 1000) (S : List Nat) (e k : Nat) : ∀ x ∈ lots16 l S e k, -(1000 * l.length : Int) ≤ x ∧ x ≤ 1000 * l.length := by
  induction k with
  | zero =>
    intro x hx
    simp only [lots16, List.mem_replicate] at hx
    omega
  | succ k ih =>
    intro x hx
    simp only [lots16] at hx
    rcases List.mem_or_eq_of_mem_set hx with h | h
    · exact ih x h
    · rw [h]; exact seg_bd hl _ _
/-- What the part-period rule has gathered lies between nothing and the charge. -/
theorem partTo_cost {l : List Int} {s h : Int} (hl : ∀ x ∈ l, 0 ≤ x) (hs : 0 ≤ s) (hh : 0 ≤ h) (k : Nat) (hk : k ≤ l.length) : 0 ≤ (partTo l s h k).2 ∧ (partTo l s h k).2 ≤ s := by
  induction k with
  | zero => exact ⟨Int.le_refl _, hs⟩
  | succ k ih =>
    obtain ⟨a, b⟩ := ih (by omega)
    simp only [partTo, partStep]
    split
    · exact ⟨Int.le_refl _, hs⟩
    · split
      · exact ⟨Int.le_refl _, hs⟩
      · rename_i h1 h2
        have h3 : lastOf (partTo l s h k).1 < k := lastOf_lt (partTo_mem l s h k) (by omega)
        have h4 : 0 ≤ l.getD k 0 := by
          rw [List.getD_eq_getElem?_getD, List.getElem?_eq_getElem (show k < l.length by omega)]; exact hl _ (List.getElem_mem _)
        have h5 := Int.mul_nonneg (Int.mul_nonneg hh h4) (show 0 ≤ ((k : Int) - (lastOf (partTo l s h k).1 : Int)) by omega)
        exact ⟨by simp only; omega, by simp only; omega⟩
def partPeriod (needs : List Int) (s h : Int) : List Int × Bool :=
  if arePeriods needs s h then (lots16 needs (partTo needs s h needs.length).1 needs.length (partTo needs s h needs.length).1.length, true) else ([], false)
/-- The ending of a call that hands back a row of numbers and a Bool. -/
def PairInts (w : World) (val : List Int × Bool) (e : Ending) (w' : World) : Prop :=
  ∃ A c, e = .returned (.tuple #[.slice A val.1.length c, .bool val.2]) ∧ OwnInts w' w.heap.size A val.1.length c val.1 ∧ Below w.heap.size w w'
theorem pairInts_mk {w w' : World} {val : List Int × Bool} {A : Option Addr} {n c : Nat} {l : List Int} {b : Bool} (hv : val = (l, b)) (h : OwnInts w' w.heap.size A n c l) (hb : Below w.heap.size w w') : PairInts w val (.returned (.tuple #[.slice A n c, .bool b])) w' := by
  subst hv
  obtain ⟨rfl, h⟩ := h
  exact ⟨A, c, rfl, ⟨rfl, h⟩, hb⟩
theorem ownInts_nil (w : World) (lo : Nat) : OwnInts w lo none 0 0 [] := ⟨rfl, rfl, .inl ⟨rfl, rfl⟩⟩
theorem partPeriod_no {needs : List Int} {s h : Int} (hn : arePeriods needs s h = false) : partPeriod needs s h = ([], false) := by simp [partPeriod, hn]
theorem partPeriod_yes {needs : List Int} {s h : Int} (hn : arePeriods needs s h = true) : partPeriod needs s h = (lots16 needs (partTo needs s h needs.length).1 needs.length (partTo needs s h needs.length).1.length, true) := by simp [partPeriod, hn]
/-- One period more, as the program takes it: the last start, what is gathered, the lots. -/
theorem part_new (needs : List Int) (s h : Int) (k : Nat) (hk : k < needs.length) (hc : s < (partTo needs s h k).2 + h * needs.getD k 0 * ((k : Int) - (lastOf (partTo needs s h k).1 : Int))) :
    (partTo needs s h (k + 1)).2 = 0 ∧ lastOf (partTo needs s h (k + 1)).1 = k ∧
    (lots16 needs (partTo needs s h k).1 k (partTo needs s h k).1.length).set k ((lots16 needs (partTo needs s h k).1 k (partTo needs s h k).1.length).getD k 0 + needs.getD k 0) = lots16 needs (partTo needs s h (k + 1)).1 (k + 1) (partTo needs s h (k + 1)).1.length := by
  have e : partTo needs s h (k + 1) = ((partTo needs s h k).1 ++ [k], 0) := by
    simp only [partTo, partStep]
    split <;> first | rfl | (rw [if_pos hc])
  rw [e]
  exact ⟨rfl, lastOf_snoc _ _, lots16_new needs _ k hk (partTo_mem needs s h k)⟩
theorem part_more (needs : List Int) (s h : Int) (k : Nat) (hk : k < needs.length) (hc : ¬ s < (partTo needs s h k).2 + h * needs.getD k 0 * ((k : Int) - (lastOf (partTo needs s h k).1 : Int))) :
    (partTo needs s h (k + 1)).2 = (partTo needs s h k).2 + h * needs.getD k 0 * ((k : Int) - (lastOf (partTo needs s h k).1 : Int)) ∧ lastOf (partTo needs s h (k + 1)).1 = lastOf (partTo needs s h k).1 ∧
    (lots16 needs (partTo needs s h k).1 k (partTo needs s h k).1.length).set (lastOf (partTo needs s h k).1) ((lots16 needs (partTo needs s h k).1 k (partTo needs s h k).1.length).getD (lastOf (partTo needs s h k).1) 0 + needs.getD k 0) = lots16 needs (partTo needs s h (k + 1)).1 (k + 1) (partTo needs s h (k + 1)).1.length := by
  cases k with
  | zero =>
    have e : partTo needs s h 1 = ([0], 0) := rfl
    have e0 : partTo needs s h 0 = ([], 0) := rfl
    rw [show (0 + 1) = 1 from rfl, e, e0]
    refine ⟨by show (0 : Int) = 0 + h * needs.getD 0 0 * ((0 : Nat) - ((0 : Nat) : Int)); simp, rfl, ?_⟩
    exact lots16_new needs [] 0 hk (fun i hi => by simp at hi)
  | succ k =>
    have hpos := partTo_some needs s h k
    have e : partTo needs s h (k + 1 + 1) = ((partTo needs s h (k + 1)).1, (partTo needs s h (k + 1)).2 + h * needs.getD (k + 1) 0 * (((k + 1 : Nat) : Int) - (lastOf (partTo needs s h (k + 1)).1 : Int))) := by
      show partStep needs s h (partTo needs s h (k + 1)) (k + 1) = _
      unfold partStep
      rw [if_neg (by omega), if_neg hc]
    rw [e]
    have hl := lastOf_lt (partTo_mem needs s h (k + 1)) hpos
    exact ⟨rfl, rfl, lots16_more needs _ (k + 1) hpos (by omega)⟩
theorem part_last (needs : List Int) (s h : Int) (k : Nat) : lastOf (partTo needs s h k).1 ≤ k := by
  cases k with
  | zero => exact Nat.le_refl _
  | succ k => exact Nat.le_of_lt (lastOf_lt (partTo_mem needs s h (k + 1)) (partTo_some needs s h k))
theorem partPeriod_len (l : List Int) (s h : Int) (hl : l.length ≤ 16777216) : (partPeriod l s h).1.length ≤ 16777216 := by
  unfold partPeriod
  split
  · simp only; rw [lots16_len]; exact hl
  · simp
set_option maxRecDepth 100000 in
set_option maxHeartbeats 2000000 in
theorem implPartPeriod_any (A : Option Addr) (n c : Nat) (needs : List Int) (s h : Int) (w : World) (ha : IntsIn w A n needs) :
    Calls Try.prog 17 #[.slice A n c, .int .i64 s, .int .i64 h] w (PairInts w (partPeriod needs s h)) := by
  have hln := ha.len
  obtain rfl := ha.1
  cases hp : arePeriods needs s h
  · go_enter Try.func17, Try.ntmps17
    go_wp2_with (go_at_call 61; refine (implArePeriods_any _ _ _ needs _ _ _ ha).mono ?_; rintro e w' ⟨rfl, rfl⟩)
    go_ret2
    exact pairInts_mk (partPeriod_no hp) (ownInts_nil _ _) (Below.refl _ _)
  obtain ⟨p1, p2, ⟨p3, p4⟩, ⟨p5, p6⟩⟩ := arePeriods_parts hp
  have HP := Lib.hid p1; clear p1
  have HY := Lib.hid (partPeriod_yes hp)
  go_enter Try.func17, Try.ntmps17
  go_wp2_with (first | (go_at_call 61; refine (implArePeriods_any _ _ _ needs _ _ _ ha).mono ?_; rintro e w' ⟨rfl, rfl⟩) | (at_make; refine wpList_make_nums rfl (.tmp 19) (.tmp 19) rfl w.heap.size needs.length rfl rfl rfl rfl (by omega) (Nat.le_refl _) ?_; intro w1 hA hA2 hA3))
  clear hp
  go_loopw [9, 10, 23] (fun st co i wr => ∃ k : Nat, k ≤ needs.length ∧ i = .int .i64 k ∧ st = .int .i64 (lastOf (partTo needs s h k).1) ∧ co = .int .i64 (partTo needs s h k).2 ∧ NumRow wr w.heap.size w.heap.size needs.length needs.length (lots16 needs (partTo needs s h k).1 k (partTo needs s h k).1.length) ∧ Below w.heap.size w wr) (fun _ _ i _ => needs.length - (intOf i).toNat)
  case atStart => exact ⟨0, by omega, rfl, rfl, rfl, hA, hA2⟩
  case round =>
    clear hA hA2 hA3
    obtain ⟨k, hk, rfl, rfl, rfl, hA, HR⟩ := hrel
    by_cases hlt : k < needs.length
    · obtain ⟨b, o, rfl, hbl, hcell⟩ := (ha.keep HR).at_ hlt
      obtain ⟨y1, y2⟩ := HP.out _ (List.getElem_mem hlt)
      have hgd : needs.getD k 0 = needs[k] := by rw [List.getD_eq_getElem?_getD, List.getElem?_eq_getElem hlt]; rfl
      obtain ⟨z1, z2⟩ := partTo_cost (fun x hx => (HP.out x hx).1) p3 p5 k hk
      have hl1 := part_last needs s h k
      have HN := Lib.hid (part_new needs s h k hlt)
      have HM := Lib.hid (part_more needs s h k hlt)
      have hbd := lots16_bd HP.out (partTo needs s h k).1 k (partTo needs s h k).1.length
      have hll := lots16_len needs (partTo needs s h k).1 k (partTo needs s h k).1.length
      obtain ⟨m1, m2⟩ := mul_bd p5 p6 y1 y2
      obtain ⟨m3, m4⟩ := mul_bd m1 m2 (show 0 ≤ (k : Int) - (lastOf (partTo needs s h k).1 : Int) by omega) (show (k : Int) - (lastOf (partTo needs s h k).1 : Int) ≤ 10 by omega)
      rw [hgd] at HN HM
      clear hgd
      generalize lastOf (partTo needs s h k).1 = t at *
      generalize (partTo needs s h k).2 = co at *
      generalize lots16 needs (partTo needs s h k).1 k (partTo needs s h k).1.length = L at *
      have hcl : ∀ j, j < needs.length → wr.cell? ⟨w.heap.size, j, none⟩ = some (.int .i64 (L.getD j 0)) ∧ -10000 ≤ L.getD j 0 ∧ L.getD j 0 ≤ 10000 := fun j hj => by
        have hj2 : j < L.length := by omega
        have e : L.getD j 0 = L[j] := by rw [List.getD_eq_getElem?_getD, List.getElem?_eq_getElem hj2]; rfl
        have := hbd _ (List.getElem_mem hj2)
        rw [e]
        exact ⟨hA.cell hj2, by omega, by omega⟩
      have HC := Lib.hid hcl
      clear hcl hbd
      by_cases hc : s < co + h * needs[k] * ((k : Int) - (t : Int))
      · obtain ⟨n1, n2, n3⟩ := HN.out hc
        have N1 := Lib.hid n1
        have N2 := Lib.hid n2
        have N3 := Lib.hid n3
        clear n1 n2 n3 HN HM
        obtain ⟨c1, c2, c3⟩ := HC.out k hlt
        generalize L.getD k 0 = x at *
        have f1 := hA.frozen k
        go_wp2
        go_round
        case rel =>
          refine ⟨k + 1, by omega, by go_num, by rw [N2.out], by rw [N1.out], ?_, HR.setCell (Nat.le_refl _) _⟩
          rw [← N3.out]; exact hA.set k _
        case measure => simp [intOf]; omega
      · obtain ⟨n1, n2, n3⟩ := HM.out hc
        have N1 := Lib.hid n1
        have N2 := Lib.hid n2
        have N3 := Lib.hid n3
        clear n1 n2 n3 HN HM
        obtain ⟨c1, c2, c3⟩ := HC.out t (by omega)
        generalize L.getD t 0 = x at *
        have f1 := hA.frozen t
        go_wp2
        go_round
        case rel =>
          refine ⟨k + 1, by omega, by go_num, by rw [N2.out], by rw [N1.out], ?_, HR.setCell (Nat.le_refl _) _⟩
          rw [← N3.out]; exact hA.set t _
        case measure => simp [intOf]; omega
    · obtain rfl : k = needs.length := by omega
      go_wp2
      go_ret2
      exact pairInts_mk HY.out hA HR
end Go.Proofs.Ytcfcfgecdlpflaa
