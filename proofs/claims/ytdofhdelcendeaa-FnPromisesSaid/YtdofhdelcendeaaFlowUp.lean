/- The walks of FlowUpTo, SpareOn, LackOf, IsKept. -/
import Derived.Test.YtdofhdelcendeaaFlowPlain
import Derived.Deep.RegionHeld3
namespace Go.Proofs.Ytdofhdelcendeaa
open Go.RowKit
def pairV (p : Int × Bool) : Value := .tuple #[.int .i64 p.1, .bool p.2]
theorem ret_pair {p q : Int × Bool} (h : p = q) : Ending.returned (.tuple #[.int .i64 p.1, .bool p.2]) = .returned (pairV q) := by rw [h, pairV]

set_option maxRecDepth 100000 in
set_option maxHeartbeats 1000000 in
theorem specFlowUpTo_any (A : Option Addr) (n c : Nat) (l : List Fl) (d : Int) (w : World) (hl : FlowsIn w A n l) :
    Calls Try.prog 35 #[.slice A n c, .int .i64 d] w fun e w' => e = .returned (.int .i64 (flowUpTo l d)) ∧ Drew w w' := by
  have hn := hl.len
  have hl0 := hl
  obtain rfl := hl.1
  cases hf : areFlows l
  · by_cases h0 : 0 < l.length
    all_goals
      go_enter Try.func35, Try.ntmps35
      go_wp2
      refine wp_loop_rounds 1 ?_
      rw [rounds_succ]
      go_wp2_with (go_at_call 40; refine (specAreFlows_any _ _ _ l _ hl).mono ?_; rintro e w1 ⟨rfl, hd⟩)
      go_ret
      first
        | exact ⟨ret_int (flowUpTo_no hf d).symm, hd⟩
        | exact ⟨ret_int (flowUpTo_no hf d).symm, Drew.refl _⟩
  have HB := Lib.hid (areFlows_bd hf d)
  go_enter Try.func35, Try.ntmps35
  go_wp2
  go_loopw [5, 6] (fun s i wr => ∃ k : Nat, k ≤ l.length ∧ i = .int .i64 k ∧ s = .int .i64 (upTo (l.take k) d) ∧ Drew w wr) (fun _ i _ => l.length - (intOf i).toNat)
  case atStart => exact ⟨0, by omega, rfl, rfl, Drew.refl _⟩
  case round =>
    obtain ⟨k, hk, rfl, rfl, HD⟩ := hrel
    by_cases hlt : k < l.length
    · obtain ⟨b, o, rfl, _, hc1, hc2⟩ := flow_at (hl.keep (HD.below _)) hlt
      have HT := Lib.hid (upTo_take l d k hlt)
      obtain ⟨b1, b2⟩ := HB.out k
      obtain ⟨b3, b4⟩ := (areFlows_mem hf l[k] (List.getElem_mem hlt)).2
      by_cases hday : l[k].1 ≤ d
      all_goals
        go_wp2_with (go_at_call 40; refine (specAreFlows_any _ _ _ l _ (hl.keep (HD.below _))).mono ?_; rintro e w1 ⟨rfl, ⟨q, rfl⟩⟩)
        go_roundw
        case rel =>
          refine ⟨k + 1, by omega, by go_num, ?_, HD.more _⟩
          rw [HT.out]
          (first | rw [if_pos (by omega)] | rw [if_neg (by omega)])
          all_goals (first | rfl | go_num)
        case measure => simp [intOf]; omega
    · obtain rfl : k = l.length := by omega
      go_wp2
      go_ret
      exact ⟨ret_int (by rw [flowUpTo_yes hf, List.take_length]), HD⟩
set_option maxRecDepth 100000 in
set_option maxHeartbeats 1000000 in
theorem implFlowUpTo_any (A : Option Addr) (n c : Nat) (l : List Fl) (d : Int) (w : World) (hl : FlowsIn w A n l) :
    Calls Try.prog 39 #[.slice A n c, .int .i64 d] w fun e w' => e = .returned (.int .i64 (flowUpTo l d)) ∧ Below w.heap.size w w' := by
  have hn := hl.len
  obtain rfl := hl.1
  cases hf : areFlows l
  · go_enter Try.func39, Try.ntmps39
    go_wp2_with (go_at_call 71; refine (implAreFlows_any _ _ _ l _ hl).mono ?_; rintro e w1 ⟨rfl, hb⟩)
    go_ret
    exact ⟨ret_int (flowUpTo_no hf d).symm, hb⟩
  have HB := Lib.hid (areFlows_bd hf d)
  go_enter Try.func39, Try.ntmps39
  go_wp2_with (go_at_call 71; refine (implAreFlows_any _ _ _ l _ hl).mono ?_; rintro e w1 ⟨rfl, hb⟩)
  go_loopw [5, 13] (fun s i wr => ∃ k : Nat, k ≤ l.length ∧ i = .int .i64 k ∧ s = .int .i64 (upTo (l.take k) d) ∧ Below w.heap.size w wr) (fun _ i _ => l.length - (intOf i).toNat)
  case atStart => exact ⟨0, by omega, rfl, rfl, hb⟩
  case round =>
    obtain ⟨k, hk, rfl, rfl, HD⟩ := hrel
    by_cases hlt : k < l.length
    · obtain ⟨b, o, rfl, _, hc1, hc2⟩ := flow_at (hl.keep HD) hlt
      have hsz := HD.size
      have HT := Lib.hid (upTo_take l d k hlt)
      obtain ⟨b1, b2⟩ := HB.out k
      obtain ⟨b3, b4⟩ := (areFlows_mem hf l[k] (List.getElem_mem hlt)).2
      by_cases hday : l[k].1 ≤ d
      all_goals
        go_wp2
        go_roundw
        case rel =>
          refine ⟨k + 1, by omega, by go_num, ?_, HD.alloc (by omega) _⟩
          rw [HT.out]
          (first | rw [if_pos (by omega)] | rw [if_neg (by omega)])
          all_goals (first | rfl | go_num)
        case measure => simp [intOf]; omega
    · obtain rfl : k = l.length := by omega
      go_wp2
      go_ret
      exact ⟨ret_int (by rw [flowUpTo_yes hf, List.take_length]), HD⟩
end Go.Proofs.Ytdofhdelcendeaa
