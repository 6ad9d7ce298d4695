/- The walk of the law FnExactPromiseDay: for every input it returns true, and no memory that was there is written. -/
import Derived.Test.YtacfpgdflhoabaaPromiseDay
import Derived.Test.YtacfpgdflhoabaaFlowMark
namespace Go.Proofs.Ytacfpgdflhoabaa
open Go.RowKit
set_option maxRecDepth 100000 in
set_option maxHeartbeats 4000000 in
theorem lawPromiseDay {w : World} (A0 : Option Addr) (n0 c0 : Nat) (l0 : List Fl) (hl0 : n0 ≤ 1048576 → FlowsIn w A0 n0 l0) (hn0 : n0 ≤ 9223372036854775807) (A1 : Option Addr) (n1 c1 : Nat) (l1 : List Fl) (hl1 : n1 ≤ 1048576 → FlowsIn w A1 n1 l1) (hn1 : n1 ≤ 9223372036854775807) (a2 : Int) (wf2 : (Lit.int .i64 a2).wf = true) (a3 : Int) (wf3 : (Lit.int .i64 a3).wf = true) :
    Calls Try.prog 14 #[.slice A0 n0 c0, .slice A1 n1 c1, .int .i64 a2, .int .i64 a3] w fun e w' => e = .returned (.bool true) ∧ Below w.heap.size w w' := by
  by_cases big0 : (1048576 : Int) < (n0 : Int)
  · go_enter Try.func14, Try.ntmps14
    go_wp2_with fail
    refine (szFlowS_big _ _ _ _ _ big0 (by omega) (by omega)).mono ?_
    rintro e w1 ⟨rfl, rfl⟩
    go_wp2_with fail
    go_ret
    exact ⟨rfl, Below.refl _ _⟩
  have bg0 : (n0 : Int) ≤ 1048576 := by omega
  clear big0
  by_cases big1 : (1048576 - (n0 : Int) : Int) < (n1 : Int)
  · go_enter Try.func14, Try.ntmps14
    go_wp2_with fail
    refine (szFlowS_ok _ _ _ _ _ (by omega) (by omega)).mono ?_
    rintro e w1 ⟨rfl, rfl⟩
    go_wp2_with fail
    refine (szFlowS_big _ _ _ _ _ big1 (by omega) (by omega)).mono ?_
    rintro e w1 ⟨rfl, rfl⟩
    go_wp2_with fail
    go_ret
    exact ⟨rfl, Below.refl _ _⟩
  have bg1 : (n1 : Int) ≤ 1048576 - (n0 : Int) := by omega
  clear big1
  have hi0 := hl0 (by omega)
  have len0 := hi0.len
  have hi1 := hl1 (by omega)
  have len1 := hi1.len
  clear hl0 hl1
  have hb : Below w.heap.size w w := Below.refl _ _
  go_enter Try.func14, Try.ntmps14
  go_wp2_with fail
  refine (szFlowS_ok _ _ _ _ _ (by omega) (by omega)).mono ?_
  rintro e w1 ⟨rfl, rfl⟩
  go_wp2_with fail
  refine (szFlowS_ok _ _ _ _ _ (by omega) (by omega)).mono ?_
  rintro e w1 ⟨rfl, rfl⟩
  go_wp2_with fail
  refine (toFlowS_any _ _ _ l0 _ (hi0.keep hb)).mono ?_
  rintro e v1 ⟨Xp0, rfl, p0, hs⟩
  replace p0 := p0.at_
  have hz1 := hs.size
  replace hb := below_on hb hs
  clear hs
  go_wp2_with fail
  refine (toFlowS_any _ _ _ l1 _ (hi1.keep hb)).mono ?_
  rintro e v2 ⟨Xp1, rfl, p1, hs⟩
  replace p1 := p1.at_
  have hz2 := hs.size
  replace hb := below_on hb hs
  replace p0 := p0.keep hs
  clear hs
  go_wp2_with fail
  refine (specPromiseDay_any _ _ _ _ _ _ l0 l1 a2 a3 _ (p0.rows len0) (p1.rows len1) ).mono ?_
  rintro e v3 ⟨rfl, hs⟩
  replace hs := hs.below v2.heap.size
  have hz3 := hs.size
  replace hb := below_on hb hs
  replace p0 := p0.keep hs
  replace p1 := p1.keep hs
  clear hs
  unfold pairV
  clear p0
  clear p1
  go_wp2_with fail
  refine (toFlowS_any _ _ _ l0 _ (hi0.keep hb)).mono ?_
  rintro e v4 ⟨Xx0, rfl, x0, hs⟩
  replace x0 := x0.at_
  have hz4 := hs.size
  replace hb := below_on hb hs
  clear hs
  go_wp2_with fail
  refine (toFlowS_any _ _ _ l1 _ (hi1.keep hb)).mono ?_
  rintro e v5 ⟨Xx1, rfl, x1, hs⟩
  replace x1 := x1.at_
  have hz5 := hs.size
  replace hb := below_on hb hs
  replace x0 := x0.keep hs
  clear hs
  go_wp2_with fail
  refine (implPromiseDay_any _ _ _ _ _ _ l0 l1 a2 a3 _ (x0.rows len0) (x1.rows len1) ).mono ?_
  rintro e v6 ⟨rfl, hs⟩
  have hz6 := hs.size
  replace hb := below_on hb hs
  replace x0 := x0.keep hs
  replace x1 := x1.keep hs
  clear hs
  unfold pairV
  go_wp2_with fail
  refine (toFlowS_any _ _ _ l0 _ (hi0.keep hb)).mono ?_
  rintro e v7 ⟨Xy0, rfl, y0, hs⟩
  replace y0 := y0.at_
  have hz7 := hs.size
  replace hb := below_on hb hs
  replace x0 := x0.keep hs
  replace x1 := x1.keep hs
  clear hs
  go_wp2_with fail
  refine (eqFlowS_yes _ _ _ _ _ _ l0 _ (x0.rows len0) (y0.rows len0)).mono ?_
  rintro e v8 ⟨rfl, hs⟩
  have hz8 := hs.size
  replace hb := below_on hb hs
  replace x0 := x0.keep hs
  replace x1 := x1.keep hs
  replace y0 := y0.keep hs
  clear hs
  clear y0
  go_wp2_with fail
  refine (toFlowS_any _ _ _ l1 _ (hi1.keep hb)).mono ?_
  rintro e v9 ⟨Xy1, rfl, y1, hs⟩
  replace y1 := y1.at_
  have hz9 := hs.size
  replace hb := below_on hb hs
  replace x0 := x0.keep hs
  replace x1 := x1.keep hs
  clear hs
  go_wp2_with fail
  refine (eqFlowS_yes _ _ _ _ _ _ l1 _ (x1.rows len1) (y1.rows len1)).mono ?_
  rintro e v10 ⟨rfl, hs⟩
  have hz10 := hs.size
  replace hb := below_on hb hs
  replace x0 := x0.keep hs
  replace x1 := x1.keep hs
  replace y1 := y1.keep hs
  clear hs
  clear y1
  go_wp2_with fail
  go_ret
  exact ⟨rfl, hb⟩
end Go.Proofs.Ytacfpgdflhoabaa
