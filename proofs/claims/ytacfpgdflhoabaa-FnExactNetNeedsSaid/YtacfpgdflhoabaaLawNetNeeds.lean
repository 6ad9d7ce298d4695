/- The walk of the law FnExactNetNeeds: for every input it returns true, and no memory that was there is written. -/
import Derived.Test.YtacfpgdflhoabaaNet
import Derived.Test.YtacfpgdflhoabaaFlowMark
namespace Go.Proofs.Ytacfpgdflhoabaa
open Go.RowKit
set_option maxRecDepth 100000 in
set_option maxHeartbeats 4000000 in
theorem lawNetNeeds {w : World} (a0 : Int) (wf0 : (Lit.int .i64 a0).wf = true) (a1 : Int) (wf1 : (Lit.int .i64 a1).wf = true) (A2 : Option Addr) (n2 c2 : Nat) (l2 : List Fl) (hl2 : n2 ≤ 1048576 → FlowsIn w A2 n2 l2) (hn2 : n2 ≤ 9223372036854775807) (A3 : Option Addr) (n3 c3 : Nat) (l3 : List Fl) (hl3 : n3 ≤ 1048576 → FlowsIn w A3 n3 l3) (hn3 : n3 ≤ 9223372036854775807) :
    Calls Try.prog 12 #[.int .i64 a0, .int .i64 a1, .slice A2 n2 c2, .slice A3 n3 c3] w fun e w' => e = .returned (.bool true) ∧ Below w.heap.size w w' := by
  by_cases big2 : (1048576 : Int) < (n2 : Int)
  · go_enter Try.func12, Try.ntmps12
    go_wp2_with fail
    refine (szFlowS_big _ _ _ _ _ big2 (by omega) (by omega)).mono ?_
    rintro e w1 ⟨rfl, rfl⟩
    go_wp2_with fail
    go_ret
    exact ⟨rfl, Below.refl _ _⟩
  have bg2 : (n2 : Int) ≤ 1048576 := by omega
  clear big2
  by_cases big3 : (1048576 - (n2 : Int) : Int) < (n3 : Int)
  · go_enter Try.func12, Try.ntmps12
    go_wp2_with fail
    refine (szFlowS_ok _ _ _ _ _ (by omega) (by omega)).mono ?_
    rintro e w1 ⟨rfl, rfl⟩
    go_wp2_with fail
    refine (szFlowS_big _ _ _ _ _ big3 (by omega) (by omega)).mono ?_
    rintro e w1 ⟨rfl, rfl⟩
    go_wp2_with fail
    go_ret
    exact ⟨rfl, Below.refl _ _⟩
  have bg3 : (n3 : Int) ≤ 1048576 - (n2 : Int) := by omega
  clear big3
  have hi2 := hl2 (by omega)
  have len2 := hi2.len
  have hi3 := hl3 (by omega)
  have len3 := hi3.len
  clear hl2 hl3
  have hb : Below w.heap.size w w := Below.refl _ _
  go_enter Try.func12, Try.ntmps12
  go_wp2_with fail
  refine (szFlowS_ok _ _ _ _ _ (by omega) (by omega)).mono ?_
  rintro e w1 ⟨rfl, rfl⟩
  go_wp2_with fail
  refine (szFlowS_ok _ _ _ _ _ (by omega) (by omega)).mono ?_
  rintro e w1 ⟨rfl, rfl⟩
  go_wp2_with fail
  refine (toFlowS_any _ _ _ l2 _ (hi2.keep hb)).mono ?_
  rintro e v1 ⟨Xp2, rfl, p2, hs⟩
  replace p2 := p2.at_
  have hz1 := hs.size
  replace hb := below_on hb hs
  clear hs
  go_wp2_with fail
  refine (toFlowS_any _ _ _ l3 _ (hi3.keep hb)).mono ?_
  rintro e v2 ⟨Xp3, rfl, p3, hs⟩
  replace p3 := p3.at_
  have hz2 := hs.size
  replace hb := below_on hb hs
  replace p2 := p2.keep hs
  clear hs
  go_wp2_with fail
  refine (specNetNeeds_any _ _ _ _ _ _ l2 l3 a0 a1 _ (p2.rows len2) (p3.rows len3) ).mono ?_
  rintro e v3 ⟨XW0, CW0, rfl, W0, hs⟩
  replace W0 := W0.at_
  have hz3 := hs.size
  replace hb := below_on hb hs
  replace p2 := p2.keep hs
  replace p3 := p3.keep hs
  clear hs
  clear p2
  clear p3
  go_wp2_with fail
  refine (toFlowS_any _ _ _ l2 _ (hi2.keep hb)).mono ?_
  rintro e v4 ⟨Xx2, rfl, x2, hs⟩
  replace x2 := x2.at_
  have hz4 := hs.size
  replace hb := below_on hb hs
  replace W0 := W0.keep hs
  clear hs
  go_wp2_with fail
  refine (toFlowS_any _ _ _ l3 _ (hi3.keep hb)).mono ?_
  rintro e v5 ⟨Xx3, rfl, x3, hs⟩
  replace x3 := x3.at_
  have hz5 := hs.size
  replace hb := below_on hb hs
  replace W0 := W0.keep hs
  replace x2 := x2.keep hs
  clear hs
  go_wp2_with fail
  refine (implNetNeeds_any _ _ _ _ _ _ l2 l3 a0 a1 _ (x2.rows len2) (x3.rows len3) ).mono ?_
  rintro e v6 ⟨XG0, CG0, rfl, G0, hs⟩
  replace G0 := G0.at_
  have hz6 := hs.size
  replace hb := below_on hb hs
  replace W0 := W0.keep hs
  replace x2 := x2.keep hs
  replace x3 := x3.keep hs
  clear hs
  have rlen := netNeeds_len l2 l3 a0 a1
  go_wp2_with fail
  refine (eqFlowS_yes _ _ _ _ _ _ (netNeeds l2 l3 a0 a1).1 _ (G0.rows rlen) (W0.rows rlen)).mono ?_
  rintro e v7 ⟨rfl, hs⟩
  have hz7 := hs.size
  replace hb := below_on hb hs
  replace W0 := W0.keep hs
  replace x2 := x2.keep hs
  replace x3 := x3.keep hs
  replace G0 := G0.keep hs
  clear hs
  go_wp2_with fail
  refine (toFlowS_any _ _ _ l2 _ (hi2.keep hb)).mono ?_
  rintro e v8 ⟨Xy2, rfl, y2, hs⟩
  replace y2 := y2.at_
  have hz8 := hs.size
  replace hb := below_on hb hs
  replace W0 := W0.keep hs
  replace x2 := x2.keep hs
  replace x3 := x3.keep hs
  replace G0 := G0.keep hs
  clear hs
  go_wp2_with fail
  refine (eqFlowS_yes _ _ _ _ _ _ l2 _ (x2.rows len2) (y2.rows len2)).mono ?_
  rintro e v9 ⟨rfl, hs⟩
  have hz9 := hs.size
  replace hb := below_on hb hs
  replace W0 := W0.keep hs
  replace x2 := x2.keep hs
  replace x3 := x3.keep hs
  replace G0 := G0.keep hs
  replace y2 := y2.keep hs
  clear hs
  clear y2
  go_wp2_with fail
  refine (toFlowS_any _ _ _ l3 _ (hi3.keep hb)).mono ?_
  rintro e v10 ⟨Xy3, rfl, y3, hs⟩
  replace y3 := y3.at_
  have hz10 := hs.size
  replace hb := below_on hb hs
  replace W0 := W0.keep hs
  replace x2 := x2.keep hs
  replace x3 := x3.keep hs
  replace G0 := G0.keep hs
  clear hs
  go_wp2_with fail
  refine (eqFlowS_yes _ _ _ _ _ _ l3 _ (x3.rows len3) (y3.rows len3)).mono ?_
  rintro e v11 ⟨rfl, hs⟩
  have hz11 := hs.size
  replace hb := below_on hb hs
  replace W0 := W0.keep hs
  replace x2 := x2.keep hs
  replace x3 := x3.keep hs
  replace G0 := G0.keep hs
  replace y3 := y3.keep hs
  clear hs
  clear y3
  go_wp2_with fail
  refine (markFlowS_any _ _ _ _ _ l2 _ _ x2 (by omega) (by omega) len2).mono ?_
  rintro e v12 ⟨rfl, _, hs⟩
  clear x2
  have hz12 := hs.size
  replace hb := below_only hb hs (by omega) (by omega)
  replace W0 := W0.only hs (by omega)
  replace x3 := x3.only hs (by omega)
  replace G0 := G0.only hs (by omega)
  clear hs
  go_wp2_with fail
  refine (markFlowS_any _ _ _ _ _ l3 _ _ x3 (by omega) (by omega) len3).mono ?_
  rintro e v13 ⟨rfl, _, hs⟩
  clear x3
  have hz13 := hs.size
  replace hb := below_only hb hs (by omega) (by omega)
  replace W0 := W0.only hs (by omega)
  replace G0 := G0.only hs (by omega)
  clear hs
  go_wp2_with fail
  refine (eqFlowS_yes _ _ _ _ _ _ (netNeeds l2 l3 a0 a1).1 _ (G0.rows rlen) (W0.rows rlen)).mono ?_
  rintro e v14 ⟨rfl, hs⟩
  have hz14 := hs.size
  replace hb := below_on hb hs
  replace W0 := W0.keep hs
  replace G0 := G0.keep hs
  clear hs
  go_wp2_with fail
  refine (markFlowS_any _ _ _ _ _ (netNeeds l2 l3 a0 a1).1 _ _ G0 (by omega) (by omega) rlen).mono ?_
  rintro e v15 ⟨rfl, M0, hs⟩
  clear G0
  have hz15 := hs.size
  replace hb := below_only hb hs (by omega) (by omega)
  replace W0 := W0.only hs (by omega)
  clear hs
  go_wp2_with fail
  refine (heldFlowS_any _ _ _ (netNeeds l2 l3 a0 a1).1 _ _ (M0.rows (by rw [marksFl_len]; exact rlen)) (by omega) (by omega)).mono ?_
  rintro e v ⟨rfl, rfl⟩
  go_wp2_with fail
  refine (toFlowS_any _ _ _ l2 _ (hi2.keep hb)).mono ?_
  rintro e v16 ⟨Xz2, rfl, z2, hs⟩
  replace z2 := z2.at_
  have hz16 := hs.size
  replace hb := below_on hb hs
  replace W0 := W0.keep hs
  replace M0 := M0.keep hs
  clear hs
  go_wp2_with fail
  refine (toFlowS_any _ _ _ l3 _ (hi3.keep hb)).mono ?_
  rintro e v17 ⟨Xz3, rfl, z3, hs⟩
  replace z3 := z3.at_
  have hz17 := hs.size
  replace hb := below_on hb hs
  replace W0 := W0.keep hs
  replace M0 := M0.keep hs
  replace z2 := z2.keep hs
  clear hs
  go_wp2_with fail
  refine (implNetNeeds_any _ _ _ _ _ _ l2 l3 a0 a1 _ (z2.rows len2) (z3.rows len3) ).mono ?_
  rintro e v18 ⟨XH0, CH0, rfl, H0, hs⟩
  replace H0 := H0.at_
  have hz18 := hs.size
  replace hb := below_on hb hs
  replace W0 := W0.keep hs
  replace M0 := M0.keep hs
  replace z2 := z2.keep hs
  replace z3 := z3.keep hs
  clear hs
  go_wp2_with fail
  refine (eqFlowS_yes _ _ _ _ _ _ (netNeeds l2 l3 a0 a1).1 _ (H0.rows rlen) (W0.rows rlen)).mono ?_
  rintro e v19 ⟨rfl, hs⟩
  have hz19 := hs.size
  replace hb := below_on hb hs
  replace W0 := W0.keep hs
  replace M0 := M0.keep hs
  replace z2 := z2.keep hs
  replace z3 := z3.keep hs
  replace H0 := H0.keep hs
  clear hs
  go_wp2_with fail
  refine (heldFlowS_any _ _ _ (netNeeds l2 l3 a0 a1).1 _ _ (M0.rows (by rw [marksFl_len]; exact rlen)) (by omega) (by omega)).mono ?_
  rintro e v ⟨rfl, rfl⟩
  go_wp2_with fail
  go_ret
  exact ⟨rfl, hb⟩
end Go.Proofs.Ytacfpgdflhoabaa
