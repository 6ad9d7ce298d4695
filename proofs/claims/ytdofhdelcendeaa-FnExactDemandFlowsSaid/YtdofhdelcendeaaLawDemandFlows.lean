/- The walk of the law FnExactDemandFlows: for every input it returns true, and no memory that was there is written. -/
import Derived.Test.YtdofhdelcendeaaDemandFlows
import Derived.Test.YtdofhdelcendeaaFlowMark
namespace Go.Proofs.Ytdofhdelcendeaa
open Go.RowKit
set_option maxRecDepth 100000 in
set_option maxHeartbeats 4000000 in
theorem lawDemandFlows {w : World} (A0 : Option Addr) (n0 c0 : Nat) (l0 : List Dm) (hl0 : n0 ≤ 1048576 → DemandsIn w A0 n0 l0 ∧ ∀ x ∈ l0, okDm x) (hn0 : n0 ≤ 9223372036854775807) (a1 : ByteArray) (_wf1 : a1.size ≤ maxLen) :
    Calls Try.prog 13 #[.slice A0 n0 c0, .string a1] w fun e w' => e = .returned (.bool true) ∧ Below w.heap.size w w' := by
  have hb : Below w.heap.size w w := Below.refl _ _
  by_cases big1 : 1048576 < a1.size
  · go_enter Try.func13, Try.ntmps13
    go_wp2_with fail
    go_ret
    exact ⟨rfl, hb⟩
  have bg1 : a1.size ≤ 1048576 := by omega
  clear big1
  go_enter Try.func13, Try.ntmps13
  go_wp2_with fail
  by_cases big0 : (1048576 : Int) < (n0 : Int)
  · refine (szDemandS_big _ _ _ _ _ big0 (by omega) (by omega)).mono ?_
    rintro e w1 ⟨rfl, rfl⟩
    go_wp2_with fail
    go_ret
    exact ⟨rfl, hb⟩
  have bg0 : (n0 : Int) ≤ 1048576 := by omega
  clear big0
  obtain ⟨hi0, ok0⟩ := hl0 (by omega)
  have len0 := hi0.len
  clear hl0
  refine (szDemandS_any _ _ _ l0 _ _ (by omega) (by omega) (hi0.keep hb) ok0).mono ?_
  rintro e v1 ⟨r0, rfl, ra0, rb0, hs⟩
  have hz1 := hs.size
  replace hb := below_on hb hs
  clear hs
  by_cases neg0 : r0 < 0
  · go_wp2_with fail
    go_ret
    exact ⟨rfl, hb⟩
  have rc0 : 0 ≤ r0 := by omega
  clear neg0 ra0
  go_wp2_with fail
  refine (toDemandS_any _ _ _ l0 _ (hi0.keep hb)).mono ?_
  rintro e v2 ⟨Xp0, rfl, p0, hs⟩
  replace p0 := p0.at_
  have hz2 := hs.size
  replace hb := below_on hb hs
  clear hs
  go_wp2_with fail
  refine (specDemandFlows_any _ _ _ l0 a1 _ (p0.rows len0) ok0).mono ?_
  rintro e v3 ⟨XW0, CW0, rfl, W0, hs⟩
  replace W0 := W0.at_
  have hz3 := hs.size
  replace hb := below_on hb hs
  replace p0 := p0.keep hs
  clear hs
  clear p0
  go_wp2_with fail
  refine (toDemandS_any _ _ _ l0 _ (hi0.keep hb)).mono ?_
  rintro e v4 ⟨Xx0, rfl, x0, hs⟩
  replace x0 := x0.at_
  have hz4 := hs.size
  replace hb := below_on hb hs
  replace W0 := W0.keep hs
  clear hs
  go_wp2_with fail
  refine (implDemandFlows_any _ _ _ l0 a1 _ (x0.rows len0) ok0 (Nat.le_refl _)).mono ?_
  rintro e v5 ⟨XG0, CG0, rfl, G0, hs⟩
  replace G0 := G0.at_
  have hz5 := hs.size
  replace hb := below_on hb hs
  replace W0 := W0.keep hs
  replace x0 := x0.keep hs
  clear hs
  have rlen := demandFlows_len l0 a1
  go_wp2_with fail
  refine (eqFlowS_yes _ _ _ _ _ _ (demandFlows l0 a1) _ (G0.rows rlen) (W0.rows rlen)).mono ?_
  rintro e v6 ⟨rfl, hs⟩
  have hz6 := hs.size
  replace hb := below_on hb hs
  replace W0 := W0.keep hs
  replace x0 := x0.keep hs
  replace G0 := G0.keep hs
  clear hs
  go_wp2_with fail
  refine (toDemandS_any _ _ _ l0 _ (hi0.keep hb)).mono ?_
  rintro e v7 ⟨Xy0, rfl, y0, hs⟩
  replace y0 := y0.at_
  have hz7 := hs.size
  replace hb := below_on hb hs
  replace W0 := W0.keep hs
  replace x0 := x0.keep hs
  replace G0 := G0.keep hs
  clear hs
  go_wp2_with fail
  refine (eqDemandS_yes _ _ _ _ _ _ l0 _ (x0.rows len0) (y0.rows len0)).mono ?_
  rintro e v8 ⟨rfl, hs⟩
  have hz8 := hs.size
  replace hb := below_on hb hs
  replace W0 := W0.keep hs
  replace x0 := x0.keep hs
  replace G0 := G0.keep hs
  replace y0 := y0.keep hs
  clear hs
  clear y0
  go_wp2_with fail
  refine (markDemandS_any _ _ _ _ _ l0 _ _ x0 (by omega) (by omega) len0).mono ?_
  rintro e v9 ⟨rfl, _, hs⟩
  clear x0
  have hz9 := hs.size
  replace hb := below_only hb hs (by omega) (by omega)
  replace W0 := W0.only hs (by omega)
  replace G0 := G0.only hs (by omega)
  clear hs
  go_wp2_with fail
  refine (eqFlowS_yes _ _ _ _ _ _ (demandFlows l0 a1) _ (G0.rows rlen) (W0.rows rlen)).mono ?_
  rintro e v10 ⟨rfl, hs⟩
  have hz10 := hs.size
  replace hb := below_on hb hs
  replace W0 := W0.keep hs
  replace G0 := G0.keep hs
  clear hs
  go_wp2_with fail
  refine (markFlowS_any _ _ _ _ _ (demandFlows l0 a1) _ _ G0 (by omega) (by omega) rlen).mono ?_
  rintro e v11 ⟨rfl, M0, hs⟩
  clear G0
  have hz11 := hs.size
  replace hb := below_only hb hs (by omega) (by omega)
  replace W0 := W0.only hs (by omega)
  clear hs
  go_wp2_with fail
  refine (heldFlowS_any _ _ _ (demandFlows l0 a1) _ _ (M0.rows (by rw [marksFl_len]; exact rlen)) (by omega) (by omega)).mono ?_
  rintro e v ⟨rfl, rfl⟩
  go_wp2_with fail
  refine (toDemandS_any _ _ _ l0 _ (hi0.keep hb)).mono ?_
  rintro e v12 ⟨Xz0, rfl, z0, hs⟩
  replace z0 := z0.at_
  have hz12 := hs.size
  replace hb := below_on hb hs
  replace W0 := W0.keep hs
  replace M0 := M0.keep hs
  clear hs
  go_wp2_with fail
  refine (implDemandFlows_any _ _ _ l0 a1 _ (z0.rows len0) ok0 (Nat.le_refl _)).mono ?_
  rintro e v13 ⟨XH0, CH0, rfl, H0, hs⟩
  replace H0 := H0.at_
  have hz13 := hs.size
  replace hb := below_on hb hs
  replace W0 := W0.keep hs
  replace M0 := M0.keep hs
  replace z0 := z0.keep hs
  clear hs
  go_wp2_with fail
  refine (eqFlowS_yes _ _ _ _ _ _ (demandFlows l0 a1) _ (H0.rows rlen) (W0.rows rlen)).mono ?_
  rintro e v14 ⟨rfl, hs⟩
  have hz14 := hs.size
  replace hb := below_on hb hs
  replace W0 := W0.keep hs
  replace M0 := M0.keep hs
  replace z0 := z0.keep hs
  replace H0 := H0.keep hs
  clear hs
  go_wp2_with fail
  refine (heldFlowS_any _ _ _ (demandFlows l0 a1) _ _ (M0.rows (by rw [marksFl_len]; exact rlen)) (by omega) (by omega)).mono ?_
  rintro e v ⟨rfl, rfl⟩
  go_wp2_with fail
  go_ret
  exact ⟨rfl, hb⟩
end Go.Proofs.Ytdofhdelcendeaa
