/- The walk of the law FnExactLotsFor: for every input it returns true, and no memory that was there is written. -/
import Derived.Test.YtdofhdelcendeaaLots
import Derived.Test.YtdofhdelcendeaaFlowMark
namespace Go.Proofs.Ytdofhdelcendeaa
open Go.RowKit
set_option maxRecDepth 100000 in
set_option maxHeartbeats 4000000 in
theorem lawLotsFor {w : World} (a0 : Int) (_wf0 : (Lit.int .i64 a0).wf = true) (a1 : Int) (_wf1 : (Lit.int .i64 a1).wf = true) (A2 : Option Addr) (n2 c2 : Nat) (l2 : List Fl) (hl2 : n2 ≤ 1048576 → FlowsIn w A2 n2 l2) (hn2 : n2 ≤ 9223372036854775807) :
    Calls Try.prog 4 #[.int .i64 a0, .int .i64 a1, .slice A2 n2 c2] w fun e w' => e = .returned (.bool true) ∧ Below w.heap.size w w' := by
  have hb : Below w.heap.size w w := Below.refl _ _
  go_enter Try.func4, Try.ntmps4
  go_wp2_with fail
  by_cases big2 : (1048576 : Int) < (n2 : Int)
  · refine (szFlowS_big _ _ _ _ _ big2 (by omega) (by omega)).mono ?_
    rintro e w1 ⟨rfl, rfl⟩
    go_wp2_with fail
    go_ret
    exact ⟨rfl, hb⟩
  have bg2 : (n2 : Int) ≤ 1048576 := by omega
  clear big2
  have hi2 := hl2 (by omega)
  have len2 := hi2.len
  clear hl2
  refine (szFlowS_ok _ _ _ _ _ (by omega) (by omega)).mono ?_
  rintro e w1 ⟨rfl, rfl⟩
  go_wp2_with fail
  refine (toFlowS_any _ _ _ l2 _ (hi2.keep hb)).mono ?_
  rintro e v1 ⟨Xp2, rfl, p2, hs⟩
  replace p2 := p2.at_
  have hz1 := hs.size
  replace hb := below_on hb hs
  clear hs
  go_wp2_with fail
  refine (specLotsFor_any _ _ _ l2 a0 a1 _ (p2.rows len2) ).mono ?_
  rintro e v2 ⟨XW0, CW0, rfl, W0, hs⟩
  replace W0 := W0.at_
  have hz2 := hs.size
  replace hb := below_on hb hs
  replace p2 := p2.keep hs
  clear hs
  clear p2
  go_wp2_with fail
  refine (toFlowS_any _ _ _ l2 _ (hi2.keep hb)).mono ?_
  rintro e v3 ⟨Xx2, rfl, x2, hs⟩
  replace x2 := x2.at_
  have hz3 := hs.size
  replace hb := below_on hb hs
  replace W0 := W0.keep hs
  clear hs
  go_wp2_with fail
  refine (implLotsFor_any _ _ _ l2 a0 a1 _ (x2.rows len2) ).mono ?_
  rintro e v4 ⟨XG0, CG0, rfl, G0, hs⟩
  replace G0 := G0.at_
  have hz4 := hs.size
  replace hb := below_on hb hs
  replace W0 := W0.keep hs
  replace x2 := x2.keep hs
  clear hs
  have rlen := lotsFor_len l2 a0 a1
  go_wp2_with fail
  refine (eqFlowS_yes _ _ _ _ _ _ (lotsFor l2 a0 a1).1 _ (G0.rows rlen) (W0.rows rlen)).mono ?_
  rintro e v5 ⟨rfl, hs⟩
  have hz5 := hs.size
  replace hb := below_on hb hs
  replace W0 := W0.keep hs
  replace x2 := x2.keep hs
  replace G0 := G0.keep hs
  clear hs
  go_wp2_with fail
  refine (toFlowS_any _ _ _ l2 _ (hi2.keep hb)).mono ?_
  rintro e v6 ⟨Xy2, rfl, y2, hs⟩
  replace y2 := y2.at_
  have hz6 := hs.size
  replace hb := below_on hb hs
  replace W0 := W0.keep hs
  replace x2 := x2.keep hs
  replace G0 := G0.keep hs
  clear hs
  go_wp2_with fail
  refine (eqFlowS_yes _ _ _ _ _ _ l2 _ (x2.rows len2) (y2.rows len2)).mono ?_
  rintro e v7 ⟨rfl, hs⟩
  have hz7 := hs.size
  replace hb := below_on hb hs
  replace W0 := W0.keep hs
  replace x2 := x2.keep hs
  replace G0 := G0.keep hs
  replace y2 := y2.keep hs
  clear hs
  clear y2
  go_wp2_with fail
  refine (markFlowS_any _ _ _ _ _ l2 _ _ x2 (by omega) (by omega) len2).mono ?_
  rintro e v8 ⟨rfl, _, hs⟩
  clear x2
  have hz8 := hs.size
  replace hb := below_only hb hs (by omega) (by omega)
  replace W0 := W0.only hs (by omega)
  replace G0 := G0.only hs (by omega)
  clear hs
  go_wp2_with fail
  refine (eqFlowS_yes _ _ _ _ _ _ (lotsFor l2 a0 a1).1 _ (G0.rows rlen) (W0.rows rlen)).mono ?_
  rintro e v9 ⟨rfl, hs⟩
  have hz9 := hs.size
  replace hb := below_on hb hs
  replace W0 := W0.keep hs
  replace G0 := G0.keep hs
  clear hs
  go_wp2_with fail
  refine (markFlowS_any _ _ _ _ _ (lotsFor l2 a0 a1).1 _ _ G0 (by omega) (by omega) rlen).mono ?_
  rintro e v10 ⟨rfl, M0, hs⟩
  clear G0
  have hz10 := hs.size
  replace hb := below_only hb hs (by omega) (by omega)
  replace W0 := W0.only hs (by omega)
  clear hs
  go_wp2_with fail
  refine (heldFlowS_any _ _ _ (lotsFor l2 a0 a1).1 _ _ (M0.rows (by rw [marksFl_len]; exact rlen)) (by omega) (by omega)).mono ?_
  rintro e v ⟨rfl, rfl⟩
  go_wp2_with fail
  refine (toFlowS_any _ _ _ l2 _ (hi2.keep hb)).mono ?_
  rintro e v11 ⟨Xz2, rfl, z2, hs⟩
  replace z2 := z2.at_
  have hz11 := hs.size
  replace hb := below_on hb hs
  replace W0 := W0.keep hs
  replace M0 := M0.keep hs
  clear hs
  go_wp2_with fail
  refine (implLotsFor_any _ _ _ l2 a0 a1 _ (z2.rows len2) ).mono ?_
  rintro e v12 ⟨XH0, CH0, rfl, H0, hs⟩
  replace H0 := H0.at_
  have hz12 := hs.size
  replace hb := below_on hb hs
  replace W0 := W0.keep hs
  replace M0 := M0.keep hs
  replace z2 := z2.keep hs
  clear hs
  go_wp2_with fail
  refine (eqFlowS_yes _ _ _ _ _ _ (lotsFor l2 a0 a1).1 _ (H0.rows rlen) (W0.rows rlen)).mono ?_
  rintro e v13 ⟨rfl, hs⟩
  have hz13 := hs.size
  replace hb := below_on hb hs
  replace W0 := W0.keep hs
  replace M0 := M0.keep hs
  replace z2 := z2.keep hs
  replace H0 := H0.keep hs
  clear hs
  go_wp2_with fail
  refine (heldFlowS_any _ _ _ (lotsFor l2 a0 a1).1 _ _ (M0.rows (by rw [marksFl_len]; exact rlen)) (by omega) (by omega)).mono ?_
  rintro e v ⟨rfl, rfl⟩
  go_wp2_with fail
  go_ret
  exact ⟨rfl, hb⟩
end Go.Proofs.Ytdofhdelcendeaa
