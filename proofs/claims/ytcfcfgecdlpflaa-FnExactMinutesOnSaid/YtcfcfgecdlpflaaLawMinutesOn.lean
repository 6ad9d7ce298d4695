/- The walk of the law FnExactMinutesOn: for every input it returns true, and no memory that was there is written. -/
import Derived.Test.YtcfcfgecdlpflaaHours
import Derived.Test.YtcfcfgecdlpflaaOpenCal
namespace Go.Proofs.Ytcfcfgecdlpflaa
open Go.RowKit
set_option maxRecDepth 100000 in
set_option maxHeartbeats 4000000 in
theorem lawMinutesOn {w : World} (A : Option Addr) (n c : Nat) (B : Option Addr) (m d : Nat) (wk : List Int) (ex : List Ex) (hcal : n ≤ 1048576 → m ≤ 1048576 → IntsIn w A n wk ∧ ExsIn w B m ex) (hn : n ≤ 9223372036854775807) (hm : m ≤ 9223372036854775807)
    (k : Int) (_wk : (Lit.int .i64 k).wf = true) (day : Int) (_wd : (Lit.int .i64 day).wf = true) :
    Calls Try.prog 13 #[.agg #[.slice A n c, .slice B m d], .int .i64 k, .int .i64 day] w fun e w' => e = .returned (.bool true) ∧ Below w.heap.size w w' := by
  have hb0 := below_alloc w (.cells #[.slice A n c, .slice B m d] 75)
  have hx0 := boxOf_alloc w #[.slice A n c, .slice B m d] 75
  simp only at hx0
  by_cases big : (1048576 : Int) < (n : Int) + m
  · go_enter Try.func13, Try.ntmps13
    go_wp2_with (go_at_call 52; refine (szCalendar_big _ _ _ _ _ _ _ _ big (by omega) (by omega) hn hm).mono ?_; rintro e w' ⟨rfl, hs⟩)
    go_ret
    exact ⟨rfl, below_on hb0 hs⟩
  obtain ⟨ha, hb⟩ := hcal (by omega) (by omega)
  have small : (n : Int) + m ≤ 1048576 := by omega
  clear hcal big
  go_enter Try.func13, Try.ntmps13
  go_wp2_with fail
  generalize w.alloc (.cells #[.slice A n c, .slice B m d] 75) = w1 at *
  refine (szCalendar_ok _ _ _ _ _ _ _ _ small (by omega)).mono ?_
  rintro e w2 ⟨rfl, hs⟩
  replace hx0 := hx0.keep hs
  replace hb0 := below_on hb0 hs
  clear hs
  obtain ⟨g0, g1, gl⟩ := hx0.two
  go_wp2_with fail
  clear g0 g1 gl
  refine (toCalendar_any _ _ _ _ _ _ wk ex _ (ha.keep hb0) (hb.keep hb0)).mono ?_
  rintro e w3 ⟨A1, B1, rfl, p1, q1, hs⟩
  replace hx0 := hx0.keep hs
  replace hb0 := below_on hb0 hs
  clear hs
  go_wp2_with fail
  refine (specMinutesOn_any _ _ _ _ _ _ wk ex k day _ p1 q1).mono ?_
  rintro e w4 ⟨rfl, hs⟩
  replace hx0 := hx0.keep hs
  replace hb0 := below_on hb0 hs
  clear hs p1 q1
  obtain ⟨g0, g1, gl⟩ := hx0.two
  go_wp2_with fail
  clear g0 g1 gl
  refine (toCalendar_any _ _ _ _ _ _ wk ex _ (ha.keep hb0) (hb.keep hb0)).mono ?_
  rintro e w5 ⟨A2, B2, rfl, p2, q2, hs⟩
  replace hx0 := hx0.keep hs
  replace hb0 := below_on hb0 hs
  clear hs
  have hx9 := boxOf_alloc w5 #[.slice A2 n n, .slice B2 m m] 80
  simp only at hx9
  have hs := below_alloc w5 (.cells #[.slice A2 n n, .slice B2 m m] 80)
  go_wp2_with fail
  generalize w5.alloc (.cells #[.slice A2 n n, .slice B2 m m] 80) = w6 at *
  replace p2 := p2.keep hs
  replace q2 := q2.keep hs
  replace hx0 := hx0.keep hs
  replace hb0 := below_on hb0 hs
  generalize w5.heap.size = N9 at *
  clear hs
  refine (implMinutesOn_any _ _ _ _ _ _ wk ex k day _ p2 q2).mono ?_
  rintro e w7 ⟨rfl, hs⟩
  replace p2 := p2.keep hs
  replace q2 := q2.keep hs
  replace hx0 := hx0.keep hs
  replace hx9 := hx9.keep hs
  replace hb0 := below_on hb0 hs
  clear hs
  obtain ⟨g0, g1, gl⟩ := hx0.two
  obtain ⟨g8, g9, gk⟩ := hx9.two
  go_wp2_with fail
  have p4 := p2.keep (Below.refl w7.heap.size w7).drew
  have q4 := q2.keep (Below.refl w7.heap.size w7).drew
  go_region_with (first
    | (go_at_call 54; refine (toCalendar_any _ _ _ _ _ _ wk ex _ (ha.keep hb0.drew) (hb.keep hb0.drew)).mono ?_; rintro e w8 ⟨A3, B3, rfl, p3, q3, hs⟩; have z8 := (hs.cell (p := ⟨N9, 0, none⟩) gk).trans g8; have z9 := (hs.cell (p := ⟨N9, 1, none⟩) gk).trans g9)
    | (go_at_call 56; refine (eqCalendar_yes _ _ _ _ _ _ _ _ _ _ _ _ wk ex _ (p4.keep hs) (q4.keep hs) p3 q3).mono ?_; rintro e w9 ⟨rfl, hs9⟩))
  all_goals
    go_wp2_with fail
    go_ret
    exact ⟨rfl, below_on (below_on hb0.drew hs) hs9⟩
end Go.Proofs.Ytcfcfgecdlpflaa
