/- The walk of the law FnExactPeggedFor: for every input it returns true, and no memory that was there is written. -/
import Derived.Test.YtacfpgdflhoabaaPegged
namespace Go.Proofs.Ytacfpgdflhoabaa
open Go.RowKit
set_option maxRecDepth 100000 in
set_option maxHeartbeats 4000000 in
theorem lawPeggedFor {w : World} (A0 : Option Addr) (n0 c0 : Nat) (l0 : List Pg) (hl0 : n0 ≤ 1048576 → PegsIn w A0 n0 l0) (hn0 : n0 ≤ 9223372036854775807) (a1 : Int) (wf1 : (Lit.int .i64 a1).wf = true) :
    Calls Try.prog 3 #[.slice A0 n0 c0, .int .i64 a1] w fun e w' => e = .returned (.bool true) ∧ Below w.heap.size w w' := by
  by_cases big0 : (1048576 : Int) < (n0 : Int)
  · go_enter Try.func3, Try.ntmps3
    go_wp2_with fail
    refine (szPegS_big _ _ _ _ _ big0 (by omega) (by omega)).mono ?_
    rintro e w1 ⟨rfl, rfl⟩
    go_wp2_with fail
    go_ret
    exact ⟨rfl, Below.refl _ _⟩
  have bg0 : (n0 : Int) ≤ 1048576 := by omega
  clear big0
  have hi0 := hl0 (by omega)
  have len0 := hi0.len
  clear hl0
  have hb : Below w.heap.size w w := Below.refl _ _
  go_enter Try.func3, Try.ntmps3
  go_wp2_with fail
  refine (szPegS_ok _ _ _ _ _ (by omega) (by omega)).mono ?_
  rintro e w1 ⟨rfl, rfl⟩
  go_wp2_with fail
  refine (toPegS_any _ _ _ l0 _ (hi0.keep hb)).mono ?_
  rintro e v1 ⟨Xp0, rfl, p0, hs⟩
  replace p0 := p0.at_
  have hz1 := hs.size
  replace hb := below_on hb hs
  clear hs
  go_wp2_with fail
  refine (specPeggedFor_any _ _ _ l0 a1 _ (p0.rows len0) ).mono ?_
  rintro e v ⟨rfl, rfl⟩
  clear p0
  go_wp2_with fail
  refine (toPegS_any _ _ _ l0 _ (hi0.keep hb)).mono ?_
  rintro e v2 ⟨Xx0, rfl, x0, hs⟩
  replace x0 := x0.at_
  have hz2 := hs.size
  replace hb := below_on hb hs
  clear hs
  go_wp2_with fail
  refine (implPeggedFor_any _ _ _ l0 a1 _ (x0.rows len0) ).mono ?_
  rintro e v3 ⟨rfl, hs⟩
  have hz3 := hs.size
  replace hb := below_on hb hs
  replace x0 := x0.keep hs
  clear hs
  go_wp2_with fail
  refine (toPegS_any _ _ _ l0 _ (hi0.keep hb)).mono ?_
  rintro e v4 ⟨Xy0, rfl, y0, hs⟩
  replace y0 := y0.at_
  have hz4 := hs.size
  replace hb := below_on hb hs
  replace x0 := x0.keep hs
  clear hs
  go_wp2_with fail
  refine (eqPegS_yes _ _ _ _ _ _ l0 _ (x0.rows len0) (y0.rows len0)).mono ?_
  rintro e v5 ⟨rfl, hs⟩
  have hz5 := hs.size
  replace hb := below_on hb hs
  replace x0 := x0.keep hs
  replace y0 := y0.keep hs
  clear hs
  clear y0
  go_wp2_with fail
  go_ret
  exact ⟨rfl, hb⟩
end Go.Proofs.Ytacfpgdflhoabaa
