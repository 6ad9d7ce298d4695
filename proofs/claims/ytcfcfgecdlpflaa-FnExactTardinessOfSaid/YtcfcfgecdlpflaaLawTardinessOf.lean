/- The walk of the law FnExactTardinessOf: for every input it returns true, and no memory that was there is written. -/
import Derived.Test.YtcfcfgecdlpflaaTardiness
namespace Go.Proofs.Ytcfcfgecdlpflaa
open Go.RowKit
set_option maxRecDepth 100000 in
set_option maxHeartbeats 4000000 in
theorem lawTardinessOf {w : World} (A0 : Option Addr) (n0 c0 : Nat) (l0 : List Jb) (hl0 : n0 ≤ 1048576 → JobPre w A0 n0 l0 ∧ ∀ x ∈ l0, okJb x) (hn0 : n0 ≤ 9223372036854775807) (A1 : Option Addr) (n1 c1 : Nat) (l1 : List Slt) (hl1 : n1 ≤ 1048576 → SlotsIn w A1 n1 l1 ∧ ∀ x ∈ l1, okSlt x) (hn1 : n1 ≤ 9223372036854775807) :
    Calls Try.prog 9 #[.slice A0 n0 c0, .slice A1 n1 c1] w fun e w' => e = .returned (.bool true) ∧ Below w.heap.size w w' := by
  have hb : Below w.heap.size w w := Below.refl _ _
  go_enter Try.func9, Try.ntmps9
  go_wp2_with fail
  by_cases big0 : (1048576 : Int) < (n0 : Int)
  · refine (szJobS_big _ _ _ _ _ big0 (by omega) (by omega)).mono ?_
    rintro e w1 ⟨rfl, rfl⟩
    go_wp2_with fail
    go_ret
    exact ⟨rfl, hb⟩
  have bg0 : (n0 : Int) ≤ 1048576 := by omega
  clear big0
  obtain ⟨hj0, ok0⟩ := hl0 (by omega)
  have len0 := hj0.len
  clear hl0
  refine (szJobS_any _ _ _ l0 _ _ _ (by omega) (by omega) hj0 hb ok0).mono ?_
  rintro e v1 ⟨r0, rfl, ra0, rb0, rj0, hs⟩
  have hz1 := hs.size
  replace hb := below_on hb hs
  clear hs
  by_cases neg0 : r0 < 0
  · go_wp2_with fail
    go_ret
    exact ⟨rfl, hb⟩
  have rc0 : 0 ≤ r0 := by omega
  have hi0 := rj0 rc0
  clear neg0 ra0 rj0 hj0
  go_wp2_with fail
  by_cases big1 : (r0 : Int) < (n1 : Int)
  · refine (szSlotS_big _ _ _ _ _ big1 (by omega) (by omega)).mono ?_
    rintro e w1 ⟨rfl, rfl⟩
    go_wp2_with fail
    go_ret
    exact ⟨rfl, hb⟩
  have bg1 : (n1 : Int) ≤ r0 := by omega
  clear big1
  obtain ⟨hi1, ok1⟩ := hl1 (by omega)
  have len1 := hi1.len
  clear hl1
  refine (szSlotS_any _ _ _ l1 _ _ (by omega) (by omega) (hi1.keep hb) ok1).mono ?_
  rintro e v2 ⟨r1, rfl, ra1, rb1, hs⟩
  have hz2 := hs.size
  replace hb := below_on hb hs
  clear hs
  by_cases neg1 : r1 < 0
  · go_wp2_with fail
    go_ret
    exact ⟨rfl, hb⟩
  have rc1 : 0 ≤ r1 := by omega
  clear neg1 ra1
  go_wp2_with fail
  refine (toJobS_any _ _ _ l0 _ (hi0.keep hb)).mono ?_
  rintro e v3 ⟨Xp0, rfl, p0, hs⟩
  replace p0 := p0.at_
  have hz3 := hs.size
  replace hb := below_on hb hs
  clear hs
  go_wp2_with fail
  refine (toSlotS_any _ _ _ l1 _ (hi1.keep hb)).mono ?_
  rintro e v4 ⟨Xp1, rfl, p1, hs⟩
  replace p1 := p1.at_
  have hz4 := hs.size
  replace hb := below_on hb hs
  replace p0 := p0.keep hs
  clear hs
  go_wp2_with fail
  refine (specTardinessOf_any _ _ _ _ _ _ l0 l1  _ (p0.rows len0) (p1.rows len1) ok0).mono ?_
  rintro e v5 ⟨rfl, hs⟩
  have hz5 := hs.size
  replace hb := below_on hb hs
  replace p0 := p0.keep hs
  replace p1 := p1.keep hs
  clear hs
  unfold pairV
  clear p0
  clear p1
  go_wp2_with fail
  refine (toJobS_any _ _ _ l0 _ (hi0.keep hb)).mono ?_
  rintro e v6 ⟨Xx0, rfl, x0, hs⟩
  replace x0 := x0.at_
  have hz6 := hs.size
  replace hb := below_on hb hs
  clear hs
  go_wp2_with fail
  refine (toSlotS_any _ _ _ l1 _ (hi1.keep hb)).mono ?_
  rintro e v7 ⟨Xx1, rfl, x1, hs⟩
  replace x1 := x1.at_
  have hz7 := hs.size
  replace hb := below_on hb hs
  replace x0 := x0.keep hs
  clear hs
  go_wp2_with fail
  refine (implTardinessOf_any _ _ _ _ _ _ l0 l1  _ (x0.rows len0) (x1.rows len1) ok0 (Nat.le_of_eq x1.1.symm)).mono ?_
  rintro e v8 ⟨rfl, hs⟩
  have hz8 := hs.size
  replace hb := below_on hb hs
  replace x0 := x0.keep hs
  replace x1 := x1.keep hs
  clear hs
  unfold pairV
  go_wp2_with fail
  refine (toJobS_any _ _ _ l0 _ (hi0.keep hb)).mono ?_
  rintro e v9 ⟨Xy0, rfl, y0, hs⟩
  replace y0 := y0.at_
  have hz9 := hs.size
  replace hb := below_on hb hs
  replace x0 := x0.keep hs
  replace x1 := x1.keep hs
  clear hs
  go_wp2_with fail
  refine (eqJobS_yes _ _ _ _ _ _ l0 _ (x0.rows len0) (y0.rows len0)).mono ?_
  rintro e v10 ⟨rfl, hs⟩
  have hz10 := hs.size
  replace hb := below_on hb hs
  replace x0 := x0.keep hs
  replace x1 := x1.keep hs
  replace y0 := y0.keep hs
  clear hs
  clear y0
  go_wp2_with fail
  refine (toSlotS_any _ _ _ l1 _ (hi1.keep hb)).mono ?_
  rintro e v11 ⟨Xy1, rfl, y1, hs⟩
  replace y1 := y1.at_
  have hz11 := hs.size
  replace hb := below_on hb hs
  replace x0 := x0.keep hs
  replace x1 := x1.keep hs
  clear hs
  go_wp2_with fail
  refine (eqSlotS_yes _ _ _ _ _ _ l1 _ (x1.rows len1) (y1.rows len1)).mono ?_
  rintro e v12 ⟨rfl, hs⟩
  have hz12 := hs.size
  replace hb := below_on hb hs
  replace x0 := x0.keep hs
  replace x1 := x1.keep hs
  replace y1 := y1.keep hs
  clear hs
  clear y1
  go_wp2_with fail
  go_ret
  exact ⟨rfl, hb⟩
end Go.Proofs.Ytcfcfgecdlpflaa
