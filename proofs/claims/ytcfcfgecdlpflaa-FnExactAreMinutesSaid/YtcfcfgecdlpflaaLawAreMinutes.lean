/- The walk of the law FnExactAreMinutes: for every input it returns true, and no memory that was there is written. -/
import Derived.Test.YtcfcfgecdlpflaaMinutes
namespace Go.Proofs.Ytcfcfgecdlpflaa
open Go.RowKit
set_option maxRecDepth 100000 in
set_option maxHeartbeats 4000000 in
theorem lawAreMinutes {w : World} (A0 : Option Addr) (n0 c0 : Nat) (l0 : List Ld) (hl0 : n0 ≤ 1048576 → LoadsIn w A0 n0 l0 ∧ ∀ x ∈ l0, okLd x) (hn0 : n0 ≤ 9223372036854775807) :
    Calls Try.prog 12 #[.slice A0 n0 c0] w fun e w' => e = .returned (.bool true) ∧ Below w.heap.size w w' := by
  have hb : Below w.heap.size w w := Below.refl _ _
  go_enter Try.func12, Try.ntmps12
  go_wp2_with fail
  by_cases big0 : (1048576 : Int) < (n0 : Int)
  · refine (szLoadS_big _ _ _ _ _ big0 (by omega) (by omega)).mono ?_
    rintro e w1 ⟨rfl, rfl⟩
    go_wp2_with fail
    go_ret
    exact ⟨rfl, hb⟩
  have bg0 : (n0 : Int) ≤ 1048576 := by omega
  clear big0
  obtain ⟨hi0, ok0⟩ := hl0 (by omega)
  have len0 := hi0.len
  clear hl0
  refine (szLoadS_any _ _ _ l0 _ _ (by omega) (by omega) (hi0.keep hb) ok0).mono ?_
  rintro e v1 ⟨r0, rfl, ra0, rb0, hs⟩
  have hz1 := hs.size
  replace hb := below_on hb hs
  clear hs
  by_cases neg0 : r0 < 0
  · go_wp2_with fail
    go_ret
    exact ⟨rfl, hb⟩
  have rc0 : 0 ≤ r0 := by omega
  clear neg0 ra0
  go_wp2_with fail
  refine (toLoadS_any _ _ _ l0 _ (hi0.keep hb)).mono ?_
  rintro e v2 ⟨Xp0, rfl, p0, hs⟩
  replace p0 := p0.at_
  have hz2 := hs.size
  replace hb := below_on hb hs
  clear hs
  go_wp2_with fail
  refine (specAreMinutes_any _ _ _ l0  _ (p0.rows len0) ok0).mono ?_
  rintro e v3 ⟨rfl, hs⟩
  replace hs := hs.below v2.heap.size
  have hz3 := hs.size
  replace hb := below_on hb hs
  replace p0 := p0.keep hs
  clear hs
  clear p0
  go_wp2_with fail
  refine (toLoadS_any _ _ _ l0 _ (hi0.keep hb)).mono ?_
  rintro e v4 ⟨Xx0, rfl, x0, hs⟩
  replace x0 := x0.at_
  have hz4 := hs.size
  replace hb := below_on hb hs
  clear hs
  go_wp2_with fail
  refine (implAreMinutes_any _ _ _ l0  _ (x0.rows len0) ok0).mono ?_
  rintro e v5 ⟨rfl, hs⟩
  have hz5 := hs.size
  replace hb := below_on hb hs
  replace x0 := x0.keep hs
  clear hs
  go_wp2_with fail
  refine (toLoadS_any _ _ _ l0 _ (hi0.keep hb)).mono ?_
  rintro e v6 ⟨Xy0, rfl, y0, hs⟩
  replace y0 := y0.at_
  have hz6 := hs.size
  replace hb := below_on hb hs
  replace x0 := x0.keep hs
  clear hs
  go_wp2_with fail
  refine (eqLoadS_yes _ _ _ _ _ _ l0 _ (x0.rows len0) (y0.rows len0)).mono ?_
  rintro e v7 ⟨rfl, hs⟩
  have hz7 := hs.size
  replace hb := below_on hb hs
  replace x0 := x0.keep hs
  replace y0 := y0.keep hs
  clear hs
  clear y0
  go_wp2_with fail
  go_ret
  exact ⟨rfl, hb⟩
end Go.Proofs.Ytcfcfgecdlpflaa
