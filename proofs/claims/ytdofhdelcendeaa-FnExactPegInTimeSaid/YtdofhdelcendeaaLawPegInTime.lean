/- The walk of the law FnExactPegInTime: for every input it returns true, and no memory that was there is written. -/
import Derived.Test.YtdofhdelcendeaaPegIn
import Derived.Test.YtdofhdelcendeaaFlowMark
namespace Go.Proofs.Ytdofhdelcendeaa
open Go.RowKit
set_option maxRecDepth 100000 in
set_option maxHeartbeats 4000000 in
theorem lawPegInTime {w : World} (A0 : Option Addr) (n0 c0 : Nat) (l0 : List Fl) (hl0 : n0 ≤ 1048576 → FlowsIn w A0 n0 l0) (hn0 : n0 ≤ 9223372036854775807) (A1 : Option Addr) (n1 c1 : Nat) (l1 : List Fl) (hl1 : n1 ≤ 1048576 → FlowsIn w A1 n1 l1) (hn1 : n1 ≤ 9223372036854775807) :
    Calls Try.prog 6 #[.slice A0 n0 c0, .slice A1 n1 c1] w fun e w' => e = .returned (.bool true) ∧ Below w.heap.size w w' := by
  have hb : Below w.heap.size w w := Below.refl _ _
  go_enter Try.func6, Try.ntmps6
  go_wp2_with fail
  by_cases big0 : (1048576 : Int) < (n0 : Int)
  · refine (szFlowS_big _ _ _ _ _ big0 (by omega) (by omega)).mono ?_
    rintro e w1 ⟨rfl, rfl⟩
    go_wp2_with fail
    go_ret
    exact ⟨rfl, hb⟩
  have bg0 : (n0 : Int) ≤ 1048576 := by omega
  clear big0
  have hi0 := hl0 (by omega)
  have len0 := hi0.len
  clear hl0
  refine (szFlowS_ok _ _ _ _ _ (by omega) (by omega)).mono ?_
  rintro e w1 ⟨rfl, rfl⟩
  go_wp2_with fail
  by_cases big1 : (1048576 - (n0 : Int) : Int) < (n1 : Int)
  · refine (szFlowS_big _ _ _ _ _ big1 (by omega) (by omega)).mono ?_
    rintro e w1 ⟨rfl, rfl⟩
    go_wp2_with fail
    go_ret
    exact ⟨rfl, hb⟩
  have bg1 : (n1 : Int) ≤ 1048576 - (n0 : Int) := by omega
  clear big1
  have hi1 := hl1 (by omega)
  have len1 := hi1.len
  clear hl1
  refine (szFlowS_ok _ _ _ _ _ (by omega) (by omega)).mono ?_
  rintro e w1 ⟨rfl, rfl⟩
  go_wp2_with fail
  refine (toFlowS_any _ _ _ l0 _ (hi0.keep hb)).mono ?_
  rintro e v1 ⟨Xp0, rfl, p0, hs⟩
  replace p0 := p0.at_
  have hz1 := hs.size
  replace hb := below_on hb hs
  clear hs
  go_wp2_with fail
  refine (toFlowS_any _ _ _ l1 _ (hi1.keep hb)).mono ?_
  rintro e v2 ⟨Xp1, rfl, p1, hs⟩
  replace p1 := p1.at_
  have hz2 := hs.size
  replace hb := below_on hb hs
  replace p0 := p0.keep hs
  clear hs
  go_wp2_with fail
  refine (specPegInTime_any _ _ _ _ _ _ l0 l1  _ (p0.rows len0) (p1.rows len1) ).mono ?_
  rintro e v3 ⟨XW0, CW0, rfl, W0, hs⟩
  replace W0 := W0.at_
  have hz3 := hs.size
  replace hb := below_on hb hs
  replace p0 := p0.keep hs
  replace p1 := p1.keep hs
  clear hs
  clear p0
  clear p1
  go_wp2_with fail
  refine (toFlowS_any _ _ _ l0 _ (hi0.keep hb)).mono ?_
  rintro e v4 ⟨Xx0, rfl, x0, hs⟩
  replace x0 := x0.at_
  have hz4 := hs.size
  replace hb := below_on hb hs
  replace W0 := W0.keep hs
  clear hs
  go_wp2_with fail
  refine (toFlowS_any _ _ _ l1 _ (hi1.keep hb)).mono ?_
  rintro e v5 ⟨Xx1, rfl, x1, hs⟩
  replace x1 := x1.at_
  have hz5 := hs.size
  replace hb := below_on hb hs
  replace W0 := W0.keep hs
  replace x0 := x0.keep hs
  clear hs
  go_wp2_with fail
  refine (implPegInTime_any _ _ _ _ _ _ l0 l1  _ (x0.rows len0) (x1.rows len1) ).mono ?_
  rintro e v6 ⟨XG0, CG0, rfl, G0, hs⟩
  replace G0 := G0.at_
  have hz6 := hs.size
  replace hb := below_on hb hs
  replace W0 := W0.keep hs
  replace x0 := x0.keep hs
  replace x1 := x1.keep hs
  clear hs
  have rlen := pegsOf_len true l0 l1
  go_wp2_with fail
  refine (eqPegS_yes _ _ _ _ _ _ (pegsOf true l0 l1).1 _ (G0.rows rlen) (W0.rows rlen)).mono ?_
  rintro e v7 ⟨rfl, hs⟩
  have hz7 := hs.size
  replace hb := below_on hb hs
  replace W0 := W0.keep hs
  replace x0 := x0.keep hs
  replace x1 := x1.keep hs
  replace G0 := G0.keep hs
  clear hs
  go_wp2_with fail
  refine (toFlowS_any _ _ _ l0 _ (hi0.keep hb)).mono ?_
  rintro e v8 ⟨Xy0, rfl, y0, hs⟩
  replace y0 := y0.at_
  have hz8 := hs.size
  replace hb := below_on hb hs
  replace W0 := W0.keep hs
  replace x0 := x0.keep hs
  replace x1 := x1.keep hs
  replace G0 := G0.keep hs
  clear hs
  go_wp2_with fail
  refine (eqFlowS_yes _ _ _ _ _ _ l0 _ (x0.rows len0) (y0.rows len0)).mono ?_
  rintro e v9 ⟨rfl, hs⟩
  have hz9 := hs.size
  replace hb := below_on hb hs
  replace W0 := W0.keep hs
  replace x0 := x0.keep hs
  replace x1 := x1.keep hs
  replace G0 := G0.keep hs
  replace y0 := y0.keep hs
  clear hs
  clear y0
  go_wp2_with fail
  refine (toFlowS_any _ _ _ l1 _ (hi1.keep hb)).mono ?_
  rintro e v10 ⟨Xy1, rfl, y1, hs⟩
  replace y1 := y1.at_
  have hz10 := hs.size
  replace hb := below_on hb hs
  replace W0 := W0.keep hs
  replace x0 := x0.keep hs
  replace x1 := x1.keep hs
  replace G0 := G0.keep hs
  clear hs
  go_wp2_with fail
  refine (eqFlowS_yes _ _ _ _ _ _ l1 _ (x1.rows len1) (y1.rows len1)).mono ?_
  rintro e v11 ⟨rfl, hs⟩
  have hz11 := hs.size
  replace hb := below_on hb hs
  replace W0 := W0.keep hs
  replace x0 := x0.keep hs
  replace x1 := x1.keep hs
  replace G0 := G0.keep hs
  replace y1 := y1.keep hs
  clear hs
  clear y1
  go_wp2_with fail
  refine (markFlowS_any _ _ _ _ _ l0 _ _ x0 (by omega) (by omega) len0).mono ?_
  rintro e v12 ⟨rfl, _, hs⟩
  clear x0
  have hz12 := hs.size
  replace hb := below_only hb hs (by omega) (by omega)
  replace W0 := W0.only hs (by omega)
  replace x1 := x1.only hs (by omega)
  replace G0 := G0.only hs (by omega)
  clear hs
  go_wp2_with fail
  refine (markFlowS_any _ _ _ _ _ l1 _ _ x1 (by omega) (by omega) len1).mono ?_
  rintro e v13 ⟨rfl, _, hs⟩
  clear x1
  have hz13 := hs.size
  replace hb := below_only hb hs (by omega) (by omega)
  replace W0 := W0.only hs (by omega)
  replace G0 := G0.only hs (by omega)
  clear hs
  go_wp2_with fail
  refine (eqPegS_yes _ _ _ _ _ _ (pegsOf true l0 l1).1 _ (G0.rows rlen) (W0.rows rlen)).mono ?_
  rintro e v14 ⟨rfl, hs⟩
  have hz14 := hs.size
  replace hb := below_on hb hs
  replace W0 := W0.keep hs
  replace G0 := G0.keep hs
  clear hs
  go_wp2_with fail
  refine (markPegS_any _ _ _ _ _ (pegsOf true l0 l1).1 _ _ G0 (by omega) (by omega) rlen).mono ?_
  rintro e v15 ⟨rfl, M0, hs⟩
  clear G0
  have hz15 := hs.size
  replace hb := below_only hb hs (by omega) (by omega)
  replace W0 := W0.only hs (by omega)
  clear hs
  go_wp2_with fail
  refine (heldPegS_any _ _ _ (pegsOf true l0 l1).1 _ _ (M0.rows (by rw [marksPg_len]; exact rlen)) (by omega) (by omega)).mono ?_
  rintro e v ⟨rfl, rfl⟩
  go_wp2_with fail
  refine (toFlowS_any _ _ _ l0 _ (hi0.keep hb)).mono ?_
  rintro e v16 ⟨Xz0, rfl, z0, hs⟩
  replace z0 := z0.at_
  have hz16 := hs.size
  replace hb := below_on hb hs
  replace W0 := W0.keep hs
  replace M0 := M0.keep hs
  clear hs
  go_wp2_with fail
  refine (toFlowS_any _ _ _ l1 _ (hi1.keep hb)).mono ?_
  rintro e v17 ⟨Xz1, rfl, z1, hs⟩
  replace z1 := z1.at_
  have hz17 := hs.size
  replace hb := below_on hb hs
  replace W0 := W0.keep hs
  replace M0 := M0.keep hs
  replace z0 := z0.keep hs
  clear hs
  go_wp2_with fail
  refine (implPegInTime_any _ _ _ _ _ _ l0 l1  _ (z0.rows len0) (z1.rows len1) ).mono ?_
  rintro e v18 ⟨XH0, CH0, rfl, H0, hs⟩
  replace H0 := H0.at_
  have hz18 := hs.size
  replace hb := below_on hb hs
  replace W0 := W0.keep hs
  replace M0 := M0.keep hs
  replace z0 := z0.keep hs
  replace z1 := z1.keep hs
  clear hs
  go_wp2_with fail
  refine (eqPegS_yes _ _ _ _ _ _ (pegsOf true l0 l1).1 _ (H0.rows rlen) (W0.rows rlen)).mono ?_
  rintro e v19 ⟨rfl, hs⟩
  have hz19 := hs.size
  replace hb := below_on hb hs
  replace W0 := W0.keep hs
  replace M0 := M0.keep hs
  replace z0 := z0.keep hs
  replace z1 := z1.keep hs
  replace H0 := H0.keep hs
  clear hs
  go_wp2_with fail
  refine (heldPegS_any _ _ _ (pegsOf true l0 l1).1 _ _ (M0.rows (by rw [marksPg_len]; exact rlen)) (by omega) (by omega)).mono ?_
  rintro e v ⟨rfl, rfl⟩
  go_wp2_with fail
  go_ret
  exact ⟨rfl, hb⟩
end Go.Proofs.Ytdofhdelcendeaa
