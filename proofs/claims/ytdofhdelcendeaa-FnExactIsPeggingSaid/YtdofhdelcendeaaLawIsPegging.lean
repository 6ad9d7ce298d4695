/- The walk of the law FnExactIsPegging: for every input it returns true, and no memory that was there is written. -/
import Derived.Test.YtdofhdelcendeaaPegging
import Derived.Test.YtdofhdelcendeaaFlowMark
namespace Go.Proofs.Ytdofhdelcendeaa
open Go.RowKit
set_option maxRecDepth 100000 in
set_option maxHeartbeats 4000000 in
theorem lawIsPegging {w : World} (A0 : Option Addr) (n0 c0 : Nat) (l0 : List Fl) (hl0 : n0 ≤ 1048576 → FlowsIn w A0 n0 l0) (hn0 : n0 ≤ 9223372036854775807) (A1 : Option Addr) (n1 c1 : Nat) (l1 : List Fl) (hl1 : n1 ≤ 1048576 → FlowsIn w A1 n1 l1) (hn1 : n1 ≤ 9223372036854775807) (A2 : Option Addr) (n2 c2 : Nat) (l2 : List Pg) (hl2 : n2 ≤ 1048576 → PegsIn w A2 n2 l2) (hn2 : n2 ≤ 9223372036854775807) :
    Calls Try.prog 3 #[.slice A0 n0 c0, .slice A1 n1 c1, .slice A2 n2 c2] w fun e w' => e = .returned (.bool true) ∧ Below w.heap.size w w' := by
  have hb : Below w.heap.size w w := Below.refl _ _
  go_enter Try.func3, Try.ntmps3
  go_wp2_with fail
  by_cases big0 : (1048576 : Int) < (n0 : Int)
  · refine (szFlowS_big _ _ _ _ _ big0 (by omega) (by omega)).mono ?_
    rintro e w1 ⟨rfl, rfl⟩
    go_wp2_with fail
    go_ret
    exact ⟨rfl, hb⟩
  have bg0 : (n0 : Int) ≤ 1048576 := by omega
  clear big0
  have hi0 := hl0 (by omega)
  have len0 := hi0.len
  clear hl0
  refine (szFlowS_ok _ _ _ _ _ (by omega) (by omega)).mono ?_
  rintro e w1 ⟨rfl, rfl⟩
  go_wp2_with fail
  by_cases big1 : (1048576 - (n0 : Int) : Int) < (n1 : Int)
  · refine (szFlowS_big _ _ _ _ _ big1 (by omega) (by omega)).mono ?_
    rintro e w1 ⟨rfl, rfl⟩
    go_wp2_with fail
    go_ret
    exact ⟨rfl, hb⟩
  have bg1 : (n1 : Int) ≤ 1048576 - (n0 : Int) := by omega
  clear big1
  have hi1 := hl1 (by omega)
  have len1 := hi1.len
  clear hl1
  refine (szFlowS_ok _ _ _ _ _ (by omega) (by omega)).mono ?_
  rintro e w1 ⟨rfl, rfl⟩
  go_wp2_with fail
  by_cases big2 : (1048576 - (n0 : Int) - (n1 : Int) : Int) < (n2 : Int)
  · refine (szPegS_big _ _ _ _ _ big2 (by omega) (by omega)).mono ?_
    rintro e w1 ⟨rfl, rfl⟩
    go_wp2_with fail
    go_ret
    exact ⟨rfl, hb⟩
  have bg2 : (n2 : Int) ≤ 1048576 - (n0 : Int) - (n1 : Int) := by omega
  clear big2
  have hi2 := hl2 (by omega)
  have len2 := hi2.len
  clear hl2
  refine (szPegS_ok _ _ _ _ _ (by omega) (by omega)).mono ?_
  rintro e w1 ⟨rfl, rfl⟩
  go_wp2_with fail
  refine (toFlowS_any _ _ _ l0 _ (hi0.keep hb)).mono ?_
  rintro e v1 ⟨Xp0, rfl, p0, hs⟩
  replace p0 := p0.at_
  have hz1 := hs.size
  replace hb := below_on hb hs
  clear hs
  go_wp2_with fail
  refine (toFlowS_any _ _ _ l1 _ (hi1.keep hb)).mono ?_
  rintro e v2 ⟨Xp1, rfl, p1, hs⟩
  replace p1 := p1.at_
  have hz2 := hs.size
  replace hb := below_on hb hs
  replace p0 := p0.keep hs
  clear hs
  go_wp2_with fail
  refine (toPegS_any _ _ _ l2 _ (hi2.keep hb)).mono ?_
  rintro e v3 ⟨Xp2, rfl, p2, hs⟩
  replace p2 := p2.at_
  have hz3 := hs.size
  replace hb := below_on hb hs
  replace p0 := p0.keep hs
  replace p1 := p1.keep hs
  clear hs
  go_wp2_with fail
  refine (specIsPegging_any _ _ _ _ _ _ _ _ _ l0 l1 l2  _ (p0.rows len0) (p1.rows len1) (p2.rows len2) ).mono ?_
  rintro e v4 ⟨rfl, hs⟩
  have hz4 := hs.size
  replace hb := below_on hb hs
  replace p0 := p0.keep hs
  replace p1 := p1.keep hs
  replace p2 := p2.keep hs
  clear hs
  clear p0
  clear p1
  clear p2
  go_wp2_with fail
  refine (toFlowS_any _ _ _ l0 _ (hi0.keep hb)).mono ?_
  rintro e v5 ⟨Xx0, rfl, x0, hs⟩
  replace x0 := x0.at_
  have hz5 := hs.size
  replace hb := below_on hb hs
  clear hs
  go_wp2_with fail
  refine (toFlowS_any _ _ _ l1 _ (hi1.keep hb)).mono ?_
  rintro e v6 ⟨Xx1, rfl, x1, hs⟩
  replace x1 := x1.at_
  have hz6 := hs.size
  replace hb := below_on hb hs
  replace x0 := x0.keep hs
  clear hs
  go_wp2_with fail
  refine (toPegS_any _ _ _ l2 _ (hi2.keep hb)).mono ?_
  rintro e v7 ⟨Xx2, rfl, x2, hs⟩
  replace x2 := x2.at_
  have hz7 := hs.size
  replace hb := below_on hb hs
  replace x0 := x0.keep hs
  replace x1 := x1.keep hs
  clear hs
  go_wp2_with fail
  refine (implIsPegging_any _ _ _ _ _ _ _ _ _ l0 l1 l2  _ (x0.rows len0) (x1.rows len1) (x2.rows len2) ).mono ?_
  rintro e v8 ⟨rfl, hs⟩
  have hz8 := hs.size
  replace hb := below_on hb hs
  replace x0 := x0.keep hs
  replace x1 := x1.keep hs
  replace x2 := x2.keep hs
  clear hs
  go_wp2_with fail
  refine (toFlowS_any _ _ _ l0 _ (hi0.keep hb)).mono ?_
  rintro e v9 ⟨Xy0, rfl, y0, hs⟩
  replace y0 := y0.at_
  have hz9 := hs.size
  replace hb := below_on hb hs
  replace x0 := x0.keep hs
  replace x1 := x1.keep hs
  replace x2 := x2.keep hs
  clear hs
  go_wp2_with fail
  refine (eqFlowS_yes _ _ _ _ _ _ l0 _ (x0.rows len0) (y0.rows len0)).mono ?_
  rintro e v10 ⟨rfl, hs⟩
  have hz10 := hs.size
  replace hb := below_on hb hs
  replace x0 := x0.keep hs
  replace x1 := x1.keep hs
  replace x2 := x2.keep hs
  replace y0 := y0.keep hs
  clear hs
  clear y0
  go_wp2_with fail
  refine (toFlowS_any _ _ _ l1 _ (hi1.keep hb)).mono ?_
  rintro e v11 ⟨Xy1, rfl, y1, hs⟩
  replace y1 := y1.at_
  have hz11 := hs.size
  replace hb := below_on hb hs
  replace x0 := x0.keep hs
  replace x1 := x1.keep hs
  replace x2 := x2.keep hs
  clear hs
  go_wp2_with fail
  refine (eqFlowS_yes _ _ _ _ _ _ l1 _ (x1.rows len1) (y1.rows len1)).mono ?_
  rintro e v12 ⟨rfl, hs⟩
  have hz12 := hs.size
  replace hb := below_on hb hs
  replace x0 := x0.keep hs
  replace x1 := x1.keep hs
  replace x2 := x2.keep hs
  replace y1 := y1.keep hs
  clear hs
  clear y1
  go_wp2_with fail
  refine (toPegS_any _ _ _ l2 _ (hi2.keep hb)).mono ?_
  rintro e v13 ⟨Xy2, rfl, y2, hs⟩
  replace y2 := y2.at_
  have hz13 := hs.size
  replace hb := below_on hb hs
  replace x0 := x0.keep hs
  replace x1 := x1.keep hs
  replace x2 := x2.keep hs
  clear hs
  go_wp2_with fail
  refine (eqPegS_yes _ _ _ _ _ _ l2 _ (x2.rows len2) (y2.rows len2)).mono ?_
  rintro e v14 ⟨rfl, hs⟩
  have hz14 := hs.size
  replace hb := below_on hb hs
  replace x0 := x0.keep hs
  replace x1 := x1.keep hs
  replace x2 := x2.keep hs
  replace y2 := y2.keep hs
  clear hs
  clear y2
  go_wp2_with fail
  go_ret
  exact ⟨rfl, hb⟩
end Go.Proofs.Ytdofhdelcendeaa
