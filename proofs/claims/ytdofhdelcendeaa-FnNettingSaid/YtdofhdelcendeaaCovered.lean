/- The walks of Projected and IsCovered. -/
import Derived.Test.YtdofhdelcendeaaFlowUp
namespace Go.Proofs.Ytdofhdelcendeaa
open Go.RowKit
def projected (rcv dem : List Fl) (stock d : Int) : Int := if inB stock 0 1000000000 && (areFlows rcv && areFlows dem) then stock + flowUpTo rcv d - flowUpTo dem d else 0
theorem projected_no {rcv dem : List Fl} {stock d : Int} (h : (inB stock 0 1000000000 && (areFlows rcv && areFlows dem)) = false) : projected rcv dem stock d = 0 := by simp [projected, h]
theorem projected_yes {rcv dem : List Fl} {stock : Int} (h1 : inB stock 0 1000000000 = true) (h2 : areFlows rcv = true) (h3 : areFlows dem = true) (d : Int) : projected rcv dem stock d = stock + flowUpTo rcv d - flowUpTo dem d := by simp [projected, h1, h2, h3]
theorem projected_bd {rcv dem : List Fl} {stock d : Int} : -40000000000 ≤ projected rcv dem stock d ∧ projected rcv dem stock d ≤ 41000000000 := by
  unfold projected
  split
  · rename_i h
    simp only [Bool.and_eq_true, inB_iff] at h
    have h1 := flowUpTo_bd rcv d
    have h2 := flowUpTo_bd dem d
    omega
  · omega
def isCovered (rcv dem : List Fl) (stock safety : Int) : Bool :=
  (inB stock 0 1000000000 && (inB safety 0 1000000000 && (areFlows rcv && areFlows dem))) && (List.range 1000).all fun d => decide (safety ≤ projected rcv dem stock d)
theorem isCovered_no {rcv dem : List Fl} {stock safety : Int} (h : (inB stock 0 1000000000 && (inB safety 0 1000000000 && (areFlows rcv && areFlows dem))) = false) : isCovered rcv dem stock safety = false := by
  unfold isCovered; rw [h]; rfl
theorem isCovered_at {rcv dem : List Fl} {stock safety : Int} {k : Nat} (hk : k < 1000) (h : projected rcv dem stock k < safety) : isCovered rcv dem stock safety = false := by
  unfold isCovered
  have : ((List.range 1000).all fun d => decide (safety ≤ projected rcv dem stock d)) = false := by
    rw [List.all_eq_false]
    exact ⟨k, by rw [List.mem_range]; exact hk, by simp; omega⟩
  rw [this, Bool.and_false]
theorem isCovered_yes {rcv dem : List Fl} {stock safety : Int} (h1 : inB stock 0 1000000000 = true) (h2 : inB safety 0 1000000000 = true) (h3 : areFlows rcv = true) (h4 : areFlows dem = true) (h : ∀ k : Nat, k < 1000 → safety ≤ projected rcv dem stock k) : isCovered rcv dem stock safety = true := by
  unfold isCovered
  have : ((List.range 1000).all fun d => decide (safety ≤ projected rcv dem stock d)) = true := by
    rw [List.all_eq_true]
    intro k hk
    rw [List.mem_range] at hk
    exact decide_eq_true (h k hk)
  rw [this, h1, h2, h3, h4]; rfl
set_option maxRecDepth 100000 in
set_option maxHeartbeats 1000000 in
theorem specProjected_any (A B : Option Addr) (n m c c2 : Nat) (rcv dem : List Fl) (stock d : Int) (w : World) (ha : FlowsIn w A n rcv) (hm : FlowsIn w B m dem) :
    Calls Try.prog 86 #[.int .i64 stock, .slice A n c, .slice B m c2, .int .i64 d] w fun e w' => e = .returned (.int .i64 (projected rcv dem stock d)) ∧ Drew w w' := by
  have hb : Drew w w := Drew.refl _
  go_enter Try.func86, Try.ntmps86
  go_wp2_with fail
  refine (l1In_any _ _ _ _).mono ?_
  rintro e v ⟨rfl, rfl⟩
  cases g1 : inB stock 0 1000000000
  · go_wp2_with fail
    go_ret
    exact ⟨ret_int (projected_no (by simp [g1])).symm, hb⟩
  go_wp2_with fail
  refine (specAreFlows_any _ _ _ rcv _ (ha.keep (hb.below _))).mono ?_
  rintro e u2 ⟨rfl, hs⟩
  replace hb := hb.trans hs
  clear hs
  cases g2 : areFlows rcv
  · go_wp2_with fail
    go_ret
    exact ⟨ret_int (projected_no (by simp [g2])).symm, hb⟩
  go_wp2_with fail
  refine (specAreFlows_any _ _ _ dem _ (hm.keep (hb.below _))).mono ?_
  rintro e u3 ⟨rfl, hs⟩
  replace hb := hb.trans hs
  clear hs
  cases g3 : areFlows dem
  · go_wp2_with fail
    go_ret
    exact ⟨ret_int (projected_no (by simp [g3])).symm, hb⟩
  obtain ⟨b1, b2⟩ := flowUpTo_bd rcv d
  obtain ⟨b3, b4⟩ := flowUpTo_bd dem d
  obtain ⟨b5, b6⟩ := inB_iff.1 g1
  go_wp2_with fail
  refine (specFlowUpTo_any _ _ _ rcv d _ (ha.keep (hb.below _))).mono ?_
  rintro e v1 ⟨rfl, hs⟩
  replace hb := hb.trans hs
  clear hs
  go_wp2_with fail
  refine (specFlowUpTo_any _ _ _ dem d _ (hm.keep (hb.below _))).mono ?_
  rintro e v2 ⟨rfl, hs⟩
  replace hb := hb.trans hs
  clear hs
  go_wp2_with fail
  go_ret
  exact ⟨ret_int (projected_yes g1 g2 g3 d).symm, hb⟩
set_option maxRecDepth 100000 in
set_option maxHeartbeats 1000000 in
theorem implProjected_any (A B : Option Addr) (n m c c2 : Nat) (rcv dem : List Fl) (stock d : Int) (w : World) (ha : FlowsIn w A n rcv) (hm : FlowsIn w B m dem) :
    Calls Try.prog 49 #[.int .i64 stock, .slice A n c, .slice B m c2, .int .i64 d] w fun e w' => e = .returned (.int .i64 (projected rcv dem stock d)) ∧ Below w.heap.size w w' := by
  have hb : Below w.heap.size w w := Below.refl _ _
  go_enter Try.func49, Try.ntmps49
  go_wp2_with fail
  refine (in_any _ _ _ _).mono ?_
  rintro e v ⟨rfl, rfl⟩
  cases g1 : inB stock 0 1000000000
  · go_wp2_with fail
    go_ret
    exact ⟨ret_int (projected_no (by simp [g1])).symm, hb⟩
  go_wp2_with fail
  refine (implAreFlows_any _ _ _ rcv _ (ha.keep hb)).mono ?_
  rintro e u2 ⟨rfl, hs⟩
  replace hb := below_on hb hs
  clear hs
  cases g2 : areFlows rcv
  · go_wp2_with fail
    go_ret
    exact ⟨ret_int (projected_no (by simp [g2])).symm, hb⟩
  go_wp2_with fail
  refine (implAreFlows_any _ _ _ dem _ (hm.keep hb)).mono ?_
  rintro e u3 ⟨rfl, hs⟩
  replace hb := below_on hb hs
  clear hs
  cases g3 : areFlows dem
  · go_wp2_with fail
    go_ret
    exact ⟨ret_int (projected_no (by simp [g3])).symm, hb⟩
  obtain ⟨b1, b2⟩ := flowUpTo_bd rcv d
  obtain ⟨b3, b4⟩ := flowUpTo_bd dem d
  obtain ⟨b5, b6⟩ := inB_iff.1 g1
  go_wp2_with fail
  refine (implFlowUpTo_any _ _ _ rcv d _ (ha.keep hb)).mono ?_
  rintro e v1 ⟨rfl, hs⟩
  replace hb := below_on hb hs
  clear hs
  go_wp2_with fail
  refine (implFlowUpTo_any _ _ _ dem d _ (hm.keep hb)).mono ?_
  rintro e v2 ⟨rfl, hs⟩
  replace hb := below_on hb hs
  clear hs
  go_wp2_with fail
  go_ret
  exact ⟨ret_int (projected_yes g1 g2 g3 d).symm, hb⟩
set_option maxRecDepth 100000 in
set_option maxHeartbeats 1000000 in
theorem specIsCovered_any (A B : Option Addr) (n m c c2 : Nat) (rcv dem : List Fl) (stock safety : Int) (w : World) (ha : FlowsIn w A n rcv) (hm : FlowsIn w B m dem) :
    Calls Try.prog 48 #[.int .i64 stock, .int .i64 safety, .slice A n c, .slice B m c2] w fun e w' => e = .returned (.bool (isCovered rcv dem stock safety)) ∧ Drew w w' := by
  have hb : Drew w w := Drew.refl _
  go_enter Try.func48, Try.ntmps48
  go_wp2_with fail
  refine (l1In_any _ _ _ _).mono ?_
  rintro e v ⟨rfl, rfl⟩
  cases g1 : inB stock 0 1000000000
  · go_wp2_with fail
    go_ret
    exact ⟨ret_bool (isCovered_no (by simp [g1])).symm, hb⟩
  go_wp2_with fail
  refine (l1In_any _ _ _ _).mono ?_
  rintro e v ⟨rfl, rfl⟩
  cases g2 : inB safety 0 1000000000
  · go_wp2_with fail
    go_ret
    exact ⟨ret_bool (isCovered_no (by simp [g2])).symm, hb⟩
  go_wp2_with fail
  refine (specAreFlows_any _ _ _ rcv _ (ha.keep (hb.below _))).mono ?_
  rintro e u3 ⟨rfl, hs⟩
  replace hb := hb.trans hs
  clear hs
  cases g3 : areFlows rcv
  · go_wp2_with fail
    go_ret
    exact ⟨ret_bool (isCovered_no (by simp [g3])).symm, hb⟩
  go_wp2_with fail
  refine (specAreFlows_any _ _ _ dem _ (hm.keep (hb.below _))).mono ?_
  rintro e u4 ⟨rfl, hs⟩
  replace hb := hb.trans hs
  clear hs
  cases g4 : areFlows dem
  · go_wp2_with fail
    go_ret
    exact ⟨ret_bool (isCovered_no (by simp [g4])).symm, hb⟩
  go_wp2_with fail
  go_loopw [9] (fun i wr => ∃ j : Nat, j ≤ 1000 ∧ i = .int .i64 j ∧ Hid (∀ k : Nat, k < j → safety ≤ projected rcv dem stock k) ∧ Drew w wr) (fun i _ => 1000 - (intOf i).toNat)
  case atStart => exact ⟨0, by omega, rfl, fun k h => absurd h (by omega), hb⟩
  case round =>
    obtain ⟨j, hj, rfl, HI, HR⟩ := hrel
    clear hb
    by_cases hlt : j ≤ 999
    · by_cases hq : safety ≤ projected rcv dem stock j
      · go_wp2_with fail
        refine (specProjected_any _ _ _ _ _ _ rcv dem _ _ _ (ha.keep (HR.below _)) (hm.keep (HR.below _))).mono ?_
        rintro e v ⟨rfl, hs⟩
        go_wp2_with fail
        go_roundw
        case rel =>
          refine ⟨j + 1, by omega, by go_num, ?_, HR.trans hs⟩
          intro k hk
          rcases Nat.lt_or_ge k j with h1 | h1
          · exact HI.out k h1
          · rw [show k = j by omega]; exact hq
        case measure => simp [intOf]; omega
      · go_wp2_with fail
        refine (specProjected_any _ _ _ _ _ _ rcv dem _ _ _ (ha.keep (HR.below _)) (hm.keep (HR.below _))).mono ?_
        rintro e v ⟨rfl, hs⟩
        go_wp2_with fail
        go_ret
        exact ⟨ret_bool (isCovered_at (k := j) (by omega) (by omega)).symm, HR.trans hs⟩
    · obtain rfl : j = 1000 := by omega
      go_wp2_with fail
      go_ret
      exact ⟨ret_bool (isCovered_yes g1 g2 g3 g4 HI.out).symm, HR⟩
set_option maxRecDepth 100000 in
set_option maxHeartbeats 1000000 in
theorem implIsCovered_any (A B : Option Addr) (n m c c2 : Nat) (rcv dem : List Fl) (stock safety : Int) (w : World) (ha : FlowsIn w A n rcv) (hm : FlowsIn w B m dem) :
    Calls Try.prog 47 #[.int .i64 stock, .int .i64 safety, .slice A n c, .slice B m c2] w fun e w' => e = .returned (.bool (isCovered rcv dem stock safety)) ∧ Below w.heap.size w w' := by
  have hb : Below w.heap.size w w := Below.refl _ _
  go_enter Try.func47, Try.ntmps47
  go_wp2_with fail
  refine (in_any _ _ _ _).mono ?_
  rintro e v ⟨rfl, rfl⟩
  cases g1 : inB stock 0 1000000000
  · go_wp2_with fail
    go_ret
    exact ⟨ret_bool (isCovered_no (by simp [g1])).symm, hb⟩
  go_wp2_with fail
  refine (in_any _ _ _ _).mono ?_
  rintro e v ⟨rfl, rfl⟩
  cases g2 : inB safety 0 1000000000
  · go_wp2_with fail
    go_ret
    exact ⟨ret_bool (isCovered_no (by simp [g2])).symm, hb⟩
  go_wp2_with fail
  refine (implAreFlows_any _ _ _ rcv _ (ha.keep hb)).mono ?_
  rintro e u3 ⟨rfl, hs⟩
  replace hb := below_on hb hs
  clear hs
  cases g3 : areFlows rcv
  · go_wp2_with fail
    go_ret
    exact ⟨ret_bool (isCovered_no (by simp [g3])).symm, hb⟩
  go_wp2_with fail
  refine (implAreFlows_any _ _ _ dem _ (hm.keep hb)).mono ?_
  rintro e u4 ⟨rfl, hs⟩
  replace hb := below_on hb hs
  clear hs
  cases g4 : areFlows dem
  · go_wp2_with fail
    go_ret
    exact ⟨ret_bool (isCovered_no (by simp [g4])).symm, hb⟩
  go_wp2_with fail
  go_loopw [9] (fun i wr => ∃ j : Nat, j ≤ 1000 ∧ i = .int .i64 j ∧ Hid (∀ k : Nat, k < j → safety ≤ projected rcv dem stock k) ∧ Below w.heap.size w wr) (fun i _ => 1000 - (intOf i).toNat)
  case atStart => exact ⟨0, by omega, rfl, fun k h => absurd h (by omega), hb⟩
  case round =>
    obtain ⟨j, hj, rfl, HI, HR⟩ := hrel
    clear hb
    by_cases hlt : j ≤ 999
    · by_cases hq : safety ≤ projected rcv dem stock j
      · go_wp2_with fail
        refine (implProjected_any _ _ _ _ _ _ rcv dem _ _ _ (ha.keep HR) (hm.keep HR)).mono ?_
        rintro e v ⟨rfl, hs⟩
        go_wp2_with fail
        go_roundw
        case rel =>
          refine ⟨j + 1, by omega, by go_num, ?_, below_on HR hs⟩
          intro k hk
          rcases Nat.lt_or_ge k j with h1 | h1
          · exact HI.out k h1
          · rw [show k = j by omega]; exact hq
        case measure => simp [intOf]; omega
      · go_wp2_with fail
        refine (implProjected_any _ _ _ _ _ _ rcv dem _ _ _ (ha.keep HR) (hm.keep HR)).mono ?_
        rintro e v ⟨rfl, hs⟩
        go_wp2_with fail
        go_ret
        exact ⟨ret_bool (isCovered_at (k := j) (by omega) (by omega)).symm, below_on HR hs⟩
    · obtain rfl : j = 1000 := by omega
      go_wp2_with fail
      go_ret
      exact ⟨ret_bool (isCovered_yes g1 g2 g3 g4 HI.out).symm, HR⟩
end Go.Proofs.Ytdofhdelcendeaa
