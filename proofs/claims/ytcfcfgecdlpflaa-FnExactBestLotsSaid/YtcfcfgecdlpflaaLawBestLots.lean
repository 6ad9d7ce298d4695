/- The walk of the law FnExactBestLots: for every input it returns true, and no memory that was there is written. -/
import Derived.Test.YtcfcfgecdlpflaaBestSpec
import Derived.Test.YtcfcfgecdlpflaaIntMark
namespace Go.Proofs.Ytcfcfgecdlpflaa
open Go.RowKit
set_option maxRecDepth 100000 in
set_option maxHeartbeats 4000000 in
theorem lawBestLots {w : World} (A0 : Option Addr) (n0 c0 : Nat) (l0 : List Int) (hl0 : n0 ≤ 1048576 → IntsIn w A0 n0 l0) (hn0 : n0 ≤ 9223372036854775807) (a1 : Int) (_wf1 : (Lit.int .i64 a1).wf = true) (a2 : Int) (_wf2 : (Lit.int .i64 a2).wf = true) :
    Calls Try.prog 4 #[.slice A0 n0 c0, .int .i64 a1, .int .i64 a2] w fun e w' => e = .returned (.bool true) ∧ Below w.heap.size w w' := by
  have hb : Below w.heap.size w w := Below.refl _ _
  by_cases big0 : 1048576 < n0
  · go_enter Try.func4, Try.ntmps4
    go_wp2_with fail
    go_ret
    exact ⟨rfl, hb⟩
  have hi0 := hl0 (by omega)
  have len0 := hi0.len
  clear hl0
  go_enter Try.func4, Try.ntmps4
  go_wp2_with fail
  refine (toIntS_any _ _ _ l0 _ (hi0.keep hb)).mono ?_
  rintro e v1 ⟨Xp0, rfl, p0, hs⟩
  replace p0 := p0.at_
  have hz1 := hs.size
  replace hb := below_on hb hs
  clear hs
  go_wp2_with fail
  refine (specBestLots_any _ _ _ l0 a1 a2 _ (p0.rows len0) (Nat.le_of_eq p0.1.symm)).mono ?_
  rintro e v2 ⟨XW0, CW0, rfl, W0, hs⟩
  replace W0 := W0.at_
  have hz2 := hs.size
  replace hb := below_on hb hs
  replace p0 := p0.keep hs
  clear hs
  clear p0
  go_wp2_with fail
  refine (toIntS_any _ _ _ l0 _ (hi0.keep hb)).mono ?_
  rintro e v3 ⟨Xx0, rfl, x0, hs⟩
  replace x0 := x0.at_
  have hz3 := hs.size
  replace hb := below_on hb hs
  replace W0 := W0.keep hs
  clear hs
  go_wp2_with fail
  refine (implBestLots_any _ _ _ l0 a1 a2 _ (x0.rows len0) (Nat.le_of_eq x0.1.symm)).mono ?_
  rintro e v4 ⟨XG0, CG0, rfl, G0, hs⟩
  replace G0 := G0.at_
  have hz4 := hs.size
  replace hb := below_on hb hs
  replace W0 := W0.keep hs
  replace x0 := x0.keep hs
  clear hs
  have rlen := bestLots_len l0 a1 a2 len0
  go_wp2_with fail
  refine (eqIntS_yes _ _ _ _ _ _ (bestLots l0 a1 a2).1 _ (G0.rows rlen) (W0.rows rlen)).mono ?_
  rintro e v5 ⟨rfl, hs⟩
  replace hs := Drew.below hs v4.heap.size
  have hz5 := hs.size
  replace hb := below_on hb hs
  replace W0 := W0.keep hs
  replace x0 := x0.keep hs
  replace G0 := G0.keep hs
  clear hs
  go_wp2_with fail
  refine (toIntS_any _ _ _ l0 _ (hi0.keep hb)).mono ?_
  rintro e v6 ⟨Xy0, rfl, y0, hs⟩
  replace y0 := y0.at_
  have hz6 := hs.size
  replace hb := below_on hb hs
  replace W0 := W0.keep hs
  replace x0 := x0.keep hs
  replace G0 := G0.keep hs
  clear hs
  go_wp2_with fail
  refine (eqIntS_yes _ _ _ _ _ _ l0 _ (x0.rows len0) (y0.rows len0)).mono ?_
  rintro e v7 ⟨rfl, hs⟩
  replace hs := Drew.below hs v6.heap.size
  have hz7 := hs.size
  replace hb := below_on hb hs
  replace W0 := W0.keep hs
  replace x0 := x0.keep hs
  replace G0 := G0.keep hs
  replace y0 := y0.keep hs
  clear hs
  clear y0
  go_wp2_with fail
  refine (markIntS_any _ _ _ _ _ l0 _ _ x0 (by omega) (by omega) len0).mono ?_
  rintro e v8 ⟨rfl, _, hs⟩
  clear x0
  have hz8 := hs.size
  replace hb := below_only hb hs (by omega) (by omega)
  replace W0 := W0.only hs (by omega)
  replace G0 := G0.only hs (by omega)
  clear hs
  go_wp2_with fail
  refine (eqIntS_yes _ _ _ _ _ _ (bestLots l0 a1 a2).1 _ (G0.rows rlen) (W0.rows rlen)).mono ?_
  rintro e v9 ⟨rfl, hs⟩
  replace hs := Drew.below hs v8.heap.size
  have hz9 := hs.size
  replace hb := below_on hb hs
  replace W0 := W0.keep hs
  replace G0 := G0.keep hs
  clear hs
  go_wp2_with fail
  refine (markIntS_any _ _ _ _ _ (bestLots l0 a1 a2).1 _ _ G0 (by omega) (by omega) rlen).mono ?_
  rintro e v10 ⟨rfl, M0, hs⟩
  clear G0
  have hz10 := hs.size
  replace hb := below_only hb hs (by omega) (by omega)
  replace W0 := W0.only hs (by omega)
  clear hs
  go_wp2_with fail
  refine (heldIntS_any _ _ _ (bestLots l0 a1 a2).1 _ _ (M0.rows (by rw [marksInt_len]; exact rlen)) (by omega) (by omega)).mono ?_
  rintro e v ⟨rfl, rfl⟩
  go_wp2_with fail
  refine (toIntS_any _ _ _ l0 _ (hi0.keep hb)).mono ?_
  rintro e v11 ⟨Xz0, rfl, z0, hs⟩
  replace z0 := z0.at_
  have hz11 := hs.size
  replace hb := below_on hb hs
  replace W0 := W0.keep hs
  replace M0 := M0.keep hs
  clear hs
  go_wp2_with fail
  refine (implBestLots_any _ _ _ l0 a1 a2 _ (z0.rows len0) (Nat.le_of_eq z0.1.symm)).mono ?_
  rintro e v12 ⟨XH0, CH0, rfl, H0, hs⟩
  replace H0 := H0.at_
  have hz12 := hs.size
  replace hb := below_on hb hs
  replace W0 := W0.keep hs
  replace M0 := M0.keep hs
  replace z0 := z0.keep hs
  clear hs
  go_wp2_with fail
  refine (eqIntS_yes _ _ _ _ _ _ (bestLots l0 a1 a2).1 _ (H0.rows rlen) (W0.rows rlen)).mono ?_
  rintro e v13 ⟨rfl, hs⟩
  replace hs := Drew.below hs v12.heap.size
  have hz13 := hs.size
  replace hb := below_on hb hs
  replace W0 := W0.keep hs
  replace M0 := M0.keep hs
  replace z0 := z0.keep hs
  replace H0 := H0.keep hs
  clear hs
  go_wp2_with fail
  refine (heldIntS_any _ _ _ (bestLots l0 a1 a2).1 _ _ (M0.rows (by rw [marksInt_len]; exact rlen)) (by omega) (by omega)).mono ?_
  rintro e v ⟨rfl, rfl⟩
  go_wp2_with fail
  go_ret
  exact ⟨rfl, hb⟩
end Go.Proofs.Ytcfcfgecdlpflaa
