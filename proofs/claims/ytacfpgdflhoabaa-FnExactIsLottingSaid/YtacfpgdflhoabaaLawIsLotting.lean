/- The walk of the law FnExactIsLotting: for every input it returns true, and no memory that was there is written. -/
import Derived.Test.YtacfpgdflhoabaaLotting
import Derived.Test.YtacfpgdflhoabaaFlowMark
namespace Go.Proofs.Ytacfpgdflhoabaa
open Go.RowKit
set_option maxRecDepth 100000 in
set_option maxHeartbeats 4000000 in
theorem lawIsLotting {w : World} (a0 : Int) (_wf0 : (Lit.int .i64 a0).wf = true) (a1 : Int) (_wf1 : (Lit.int .i64 a1).wf = true) (A2 : Option Addr) (n2 c2 : Nat) (l2 : List Fl) (hl2 : n2 ≤ 1048576 → FlowsIn w A2 n2 l2) (hn2 : n2 ≤ 9223372036854775807) (A3 : Option Addr) (n3 c3 : Nat) (l3 : List Fl) (hl3 : n3 ≤ 1048576 → FlowsIn w A3 n3 l3) (hn3 : n3 ≤ 9223372036854775807) :
    Calls Try.prog 10 #[.int .i64 a0, .int .i64 a1, .slice A2 n2 c2, .slice A3 n3 c3] w fun e w' => e = .returned (.bool true) ∧ Below w.heap.size w w' := by
  have hb : Below w.heap.size w w := Below.refl _ _
  go_enter Try.func10, Try.ntmps10
  go_wp2_with fail
  by_cases big2 : (1048576 : Int) < (n2 : Int)
  · refine (szFlowS_big _ _ _ _ _ big2 (by omega) (by omega)).mono ?_
    rintro e w1 ⟨rfl, rfl⟩
    go_wp2_with fail
    go_ret
    exact ⟨rfl, hb⟩
  have bg2 : (n2 : Int) ≤ 1048576 := by omega
  clear big2
  have hi2 := hl2 (by omega)
  have len2 := hi2.len
  clear hl2
  refine (szFlowS_ok _ _ _ _ _ (by omega) (by omega)).mono ?_
  rintro e w1 ⟨rfl, rfl⟩
  go_wp2_with fail
  by_cases big3 : (1048576 - (n2 : Int) : Int) < (n3 : Int)
  · refine (szFlowS_big _ _ _ _ _ big3 (by omega) (by omega)).mono ?_
    rintro e w1 ⟨rfl, rfl⟩
    go_wp2_with fail
    go_ret
    exact ⟨rfl, hb⟩
  have bg3 : (n3 : Int) ≤ 1048576 - (n2 : Int) := by omega
  clear big3
  have hi3 := hl3 (by omega)
  have len3 := hi3.len
  clear hl3
  refine (szFlowS_ok _ _ _ _ _ (by omega) (by omega)).mono ?_
  rintro e w1 ⟨rfl, rfl⟩
  go_wp2_with fail
  refine (toFlowS_any _ _ _ l2 _ (hi2.keep hb)).mono ?_
  rintro e v1 ⟨Xp2, rfl, p2, hs⟩
  replace p2 := p2.at_
  have hz1 := hs.size
  replace hb := below_on hb hs
  clear hs
  go_wp2_with fail
  refine (toFlowS_any _ _ _ l3 _ (hi3.keep hb)).mono ?_
  rintro e v2 ⟨Xp3, rfl, p3, hs⟩
  replace p3 := p3.at_
  have hz2 := hs.size
  replace hb := below_on hb hs
  replace p2 := p2.keep hs
  clear hs
  go_wp2_with fail
  refine (specIsLotting_any _ _ _ _ _ _ l2 l3 a0 a1 _ (p2.rows len2) (p3.rows len3) ).mono ?_
  rintro e v3 ⟨rfl, hs⟩
  replace hs := hs.below v2.heap.size
  have hz3 := hs.size
  replace hb := below_on hb hs
  replace p2 := p2.keep hs
  replace p3 := p3.keep hs
  clear hs
  clear p2
  clear p3
  go_wp2_with fail
  refine (toFlowS_any _ _ _ l2 _ (hi2.keep hb)).mono ?_
  rintro e v4 ⟨Xx2, rfl, x2, hs⟩
  replace x2 := x2.at_
  have hz4 := hs.size
  replace hb := below_on hb hs
  clear hs
  go_wp2_with fail
  refine (toFlowS_any _ _ _ l3 _ (hi3.keep hb)).mono ?_
  rintro e v5 ⟨Xx3, rfl, x3, hs⟩
  replace x3 := x3.at_
  have hz5 := hs.size
  replace hb := below_on hb hs
  replace x2 := x2.keep hs
  clear hs
  go_wp2_with fail
  refine (implIsLotting_any _ _ _ _ _ _ l2 l3 a0 a1 _ (x2.rows len2) (x3.rows len3) ).mono ?_
  rintro e v6 ⟨rfl, hs⟩
  have hz6 := hs.size
  replace hb := below_on hb hs
  replace x2 := x2.keep hs
  replace x3 := x3.keep hs
  clear hs
  go_wp2_with fail
  refine (toFlowS_any _ _ _ l2 _ (hi2.keep hb)).mono ?_
  rintro e v7 ⟨Xy2, rfl, y2, hs⟩
  replace y2 := y2.at_
  have hz7 := hs.size
  replace hb := below_on hb hs
  replace x2 := x2.keep hs
  replace x3 := x3.keep hs
  clear hs
  go_wp2_with fail
  refine (eqFlowS_yes _ _ _ _ _ _ l2 _ (x2.rows len2) (y2.rows len2)).mono ?_
  rintro e v8 ⟨rfl, hs⟩
  have hz8 := hs.size
  replace hb := below_on hb hs
  replace x2 := x2.keep hs
  replace x3 := x3.keep hs
  replace y2 := y2.keep hs
  clear hs
  clear y2
  go_wp2_with fail
  refine (toFlowS_any _ _ _ l3 _ (hi3.keep hb)).mono ?_
  rintro e v9 ⟨Xy3, rfl, y3, hs⟩
  replace y3 := y3.at_
  have hz9 := hs.size
  replace hb := below_on hb hs
  replace x2 := x2.keep hs
  replace x3 := x3.keep hs
  clear hs
  go_wp2_with fail
  refine (eqFlowS_yes _ _ _ _ _ _ l3 _ (x3.rows len3) (y3.rows len3)).mono ?_
  rintro e v10 ⟨rfl, hs⟩
  have hz10 := hs.size
  replace hb := below_on hb hs
  replace x2 := x2.keep hs
  replace x3 := x3.keep hs
  replace y3 := y3.keep hs
  clear hs
  clear y3
  go_wp2_with fail
  go_ret
  exact ⟨rfl, hb⟩
end Go.Proofs.Ytacfpgdflhoabaa
