/- The walks of SpareOn, LackOf, IsKept. -/
import Derived.Test.YtdofhdelcendeaaFlowUp
namespace Go.Proofs.Ytdofhdelcendeaa
open Go.RowKit
theorem spareOn_no {needs lots : List Fl} (h : (areFlows needs && areFlows lots) = false) (d : Int) : spareOn needs lots d = 0 := by simp [spareOn, h]
theorem spareOn_yes {needs lots : List Fl} (h1 : areFlows needs = true) (h2 : areFlows lots = true) (d : Int) : spareOn needs lots d = flowUpTo lots d - flowUpTo needs d := by simp [spareOn, h1, h2]

set_option maxRecDepth 100000 in
set_option maxHeartbeats 1000000 in
theorem specSpareOn_any (A B : Option Addr) (n m c c2 : Nat) (needs lots : List Fl) (d : Int) (w : World) (ha : FlowsIn w A n needs) (hb : FlowsIn w B m lots) :
    Calls Try.prog 88 #[.slice A n c, .slice B m c2, .int .i64 d] w fun e w' => e = .returned (.int .i64 (spareOn needs lots d)) ∧ Drew w w' := by
  cases h1 : areFlows needs
  · go_enter Try.func88, Try.ntmps88
    go_wp2_with fail
    refine (specAreFlows_any _ _ _ needs _ ha).mono ?_
    rintro e w1 ⟨rfl, HD⟩
    go_wp2_with fail
    go_ret
    exact ⟨ret_int (spareOn_no (by simp [h1]) d).symm, HD⟩
  cases h2 : areFlows lots
  · go_enter Try.func88, Try.ntmps88
    go_wp2_with fail
    refine (specAreFlows_any _ _ _ needs _ ha).mono ?_
    rintro e w1 ⟨rfl, HD⟩
    go_wp2_with fail
    refine (specAreFlows_any _ _ _ lots _ (hb.keep (HD.below _))).mono ?_
    rintro e w2 ⟨rfl, HD2⟩
    go_wp2_with fail
    go_ret
    exact ⟨ret_int (spareOn_no (by simp [h2]) d).symm, HD.trans HD2⟩
  obtain ⟨b1, b2⟩ := flowUpTo_bd needs d
  obtain ⟨b3, b4⟩ := flowUpTo_bd lots d
  go_enter Try.func88, Try.ntmps88
  go_wp2_with fail
  refine (specAreFlows_any _ _ _ needs _ ha).mono ?_
  rintro e w1 ⟨rfl, HD⟩
  go_wp2_with fail
  refine (specAreFlows_any _ _ _ lots _ (hb.keep (HD.below _))).mono ?_
  rintro e w2 ⟨rfl, HD2⟩
  have HD12 := HD.trans HD2
  go_wp2_with fail
  refine (specFlowUpTo_any _ _ _ lots d _ (hb.keep (HD12.below _))).mono ?_
  rintro e w3 ⟨rfl, HD3⟩
  have HD13 := HD12.trans HD3
  go_wp2_with fail
  refine (specFlowUpTo_any _ _ _ needs d _ (ha.keep (HD13.below _))).mono ?_
  rintro e w4 ⟨rfl, HD4⟩
  go_wp2_with fail
  go_ret
  exact ⟨ret_int (spareOn_yes h1 h2 d).symm, HD13.trans HD4⟩
set_option maxRecDepth 100000 in
set_option maxHeartbeats 1000000 in
theorem implSpareOn_any (A B : Option Addr) (n m c c2 : Nat) (needs lots : List Fl) (d : Int) (w : World) (ha : FlowsIn w A n needs) (hb : FlowsIn w B m lots) :
    Calls Try.prog 53 #[.slice A n c, .slice B m c2, .int .i64 d] w fun e w' => e = .returned (.int .i64 (spareOn needs lots d)) ∧ Below w.heap.size w w' := by
  cases h1 : areFlows needs
  · go_enter Try.func53, Try.ntmps53
    go_wp2_with fail
    refine (implAreFlows_any _ _ _ needs _ ha).mono ?_
    rintro e w1 ⟨rfl, HD⟩
    go_wp2_with fail
    go_ret
    exact ⟨ret_int (spareOn_no (by simp [h1]) d).symm, HD⟩
  cases h2 : areFlows lots
  · go_enter Try.func53, Try.ntmps53
    go_wp2_with fail
    refine (implAreFlows_any _ _ _ needs _ ha).mono ?_
    rintro e w1 ⟨rfl, HD⟩
    go_wp2_with fail
    refine (implAreFlows_any _ _ _ lots _ (hb.keep HD)).mono ?_
    rintro e w2 ⟨rfl, HD2⟩
    go_wp2_with fail
    go_ret
    exact ⟨ret_int (spareOn_no (by simp [h2]) d).symm, below_on HD HD2⟩
  obtain ⟨b1, b2⟩ := flowUpTo_bd needs d
  obtain ⟨b3, b4⟩ := flowUpTo_bd lots d
  go_enter Try.func53, Try.ntmps53
  go_wp2_with fail
  refine (implAreFlows_any _ _ _ needs _ ha).mono ?_
  rintro e w1 ⟨rfl, HD⟩
  go_wp2_with fail
  refine (implAreFlows_any _ _ _ lots _ (hb.keep HD)).mono ?_
  rintro e w2 ⟨rfl, HD2⟩
  have HD12 := below_on HD HD2
  go_wp2_with fail
  refine (implFlowUpTo_any _ _ _ lots d _ (hb.keep HD12)).mono ?_
  rintro e w3 ⟨rfl, HD3⟩
  have HD13 := below_on HD12 HD3
  go_wp2_with fail
  refine (implFlowUpTo_any _ _ _ needs d _ (ha.keep HD13)).mono ?_
  rintro e w4 ⟨rfl, HD4⟩
  go_wp2_with fail
  go_ret
  exact ⟨ret_int (spareOn_yes h1 h2 d).symm, below_on HD13 HD4⟩
end Go.Proofs.Ytdofhdelcendeaa
