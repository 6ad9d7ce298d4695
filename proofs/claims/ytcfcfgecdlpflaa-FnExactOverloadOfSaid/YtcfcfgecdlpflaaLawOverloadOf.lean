/- The walk of the law FnExactOverloadOf: for every input it returns true, and no memory that was there is written. -/
import Derived.Test.YtcfcfgecdlpflaaOverload
import Derived.Test.YtcfcfgecdlpflaaOpenLoads
namespace Go.Proofs.Ytcfcfgecdlpflaa
open Go.RowKit
set_option maxRecDepth 100000 in
set_option maxHeartbeats 4000000 in
theorem lawOverloadOf {w : World} (A0 : Option Addr) (n0 c0 : Nat) (l : List Ld) (hl0 : n0 ≤ 1048576 → LoadsIn w A0 n0 l ∧ ∀ x ∈ l, okLd x) (hn0 : n0 ≤ 9223372036854775807)
    (A : Option Addr) (n c : Nat) (B : Option Addr) (m d : Nat) (wk : List Int) (ex : List Ex) (hcal : n ≤ 1048576 → m ≤ 1048576 → IntsIn w A n wk ∧ ExsIn w B m ex) (hn : n ≤ 9223372036854775807) (hm : m ≤ 9223372036854775807)
    (q : Int) (_wq : (Lit.int .i64 q).wf = true) :
    Calls Try.prog 14 #[.slice A0 n0 c0, .agg #[.slice A n c, .slice B m d], .int .i64 q] w fun e w' => e = .returned (.bool true) ∧ Below w.heap.size w w' := by
  have hb0 := below_alloc w (.cells #[.slice A n c, .slice B m d] 75)
  have hx0 := boxOf_alloc w #[.slice A n c, .slice B m d] 75
  simp only at hx0
  go_enter Try.func14, Try.ntmps14
  go_wp2_with fail
  generalize w.alloc (.cells #[.slice A n c, .slice B m d] 75) = w1 at *
  by_cases big0 : (1048576 : Int) < (n0 : Int)
  · refine (szLoadS_big _ _ _ _ _ big0 (by omega) (by omega)).mono ?_
    rintro e v1 ⟨rfl, rfl⟩
    go_wp2_with fail
    go_ret
    exact ⟨rfl, hb0⟩
  obtain ⟨hl, ok0⟩ := hl0 (by omega)
  have len0 := hl.len
  have bg0 : (n0 : Int) ≤ 1048576 := by omega
  clear hl0 big0
  refine (szLoadS_any _ _ _ l _ _ (by omega) (by omega) (hl.keep hb0) ok0).mono ?_
  rintro e v1 ⟨r0, rfl, ra, rb, hs⟩
  replace hx0 := hx0.keep hs
  replace hb0 := below_on hb0 hs
  clear hs
  by_cases neg : r0 < 0
  · go_wp2_with fail
    go_ret
    exact ⟨rfl, hb0⟩
  have rc : 0 ≤ r0 := by omega
  clear neg ra
  obtain ⟨g0, g1, gl⟩ := hx0.two
  go_wp2_with fail
  clear g0 g1 gl
  by_cases big : r0 < (n : Int) + m
  · refine (szCalendar_big _ _ _ _ _ _ _ _ big rc rb hn hm).mono ?_
    rintro e v2 ⟨rfl, hs⟩
    go_wp2_with fail
    go_ret
    exact ⟨rfl, below_on hb0 hs⟩
  obtain ⟨ha, hb⟩ := hcal (by omega) (by omega)
  have small : (n : Int) + m ≤ r0 := by omega
  clear hcal big
  refine (szCalendar_ok _ _ _ _ _ _ _ _ small rb).mono ?_
  rintro e v2 ⟨rfl, hs⟩
  replace hx0 := hx0.keep hs
  replace hb0 := below_on hb0 hs
  clear hs
  have HO := Lib.hid ok0
  clear ok0
  obtain ⟨g0, g1, gl⟩ := hx0.two
  go_wp2_with fail
  go_region_with (first
    | (go_at_call 49; first
        | (refine (toLoadS_any _ _ _ l _ (hl.keep hbC)).mono ?_; rintro e wA ⟨X0, rfl, p0, hsA⟩; have hbA := below_on hbC hsA; have p1' := p1.keep hsA; have q1' := q1.keep hsA; have p0' := p0.rows len0)
        | (refine (toLoadS_any _ _ _ l _ (hl.keep hb0.drew)).mono ?_; rintro e wA ⟨X0, rfl, p0, hsA⟩; have hbA := below_on hb0.drew hsA; have y0 := (hsA.cell (p := ⟨w.heap.size, 0, none⟩) gl).trans g0; have y1 := (hsA.cell (p := ⟨w.heap.size, 1, none⟩) gl).trans g1))
    | (go_at_call 54; first
        | (refine (toCalendar_any _ _ _ _ _ _ wk ex _ (ha.keep hbA) (hb.keep hbA)).mono ?_; rintro e wC ⟨A1, B1, rfl, p1', q1', hsC⟩; have hbC := below_on hbA hsC; have p0' := (p0.rows len0).keep hsC)
        | (refine (toCalendar_any _ _ _ _ _ _ wk ex _ (ha.keep hb0.drew) (hb.keep hb0.drew)).mono ?_; rintro e wC ⟨A1, B1, rfl, p1, q1, hsC⟩; have hbC := below_on hb0.drew hsC))
    | (go_at_call 57; refine (specOverloadOf_any _ _ _ _ _ _ _ _ _ l wk ex q _ p0' HO.out p1' q1').mono ?_; rintro e w5 ⟨rfl, hs⟩))
  all_goals
    have hbD : Below w.heap.size w w5 := by first | exact below_on hbA hs | exact below_on hbC hs
    have hx5 : BoxOf w5 w.heap.size [.slice A n c, .slice B m d] := by
      first
        | exact hx0.keep (below_on (below_on (Below.refl _ _).drew hsA) (below_on hsC hs))
        | exact hx0.keep (below_on (below_on (Below.refl _ _).drew hsC) (below_on hsA hs))
    clear hs hb0 hx0 g0 g1 gl
    go_wp2_with fail
    refine (toLoadS_any _ _ _ l _ (hl.keep hbD)).mono ?_
    rintro e u1 ⟨X1, rfl, r1, hs⟩
    replace hx5 := hx5.keep hs
    replace hbD := below_on hbD hs
    replace r1 := r1.rows len0
    clear hs
    obtain ⟨g0, g1, gl⟩ := hx5.two
    go_wp2_with fail
    clear g0 g1 gl
    refine (toCalendar_any _ _ _ _ _ _ wk ex _ (ha.keep hbD) (hb.keep hbD)).mono ?_
    rintro e u2 ⟨A2, B2, rfl, p2, q2, hs⟩
    replace hx5 := hx5.keep hs
    replace hbD := below_on hbD hs
    replace r1 := r1.keep hs
    clear hs
    have hx9 := boxOf_alloc u2 #[.slice A2 n n, .slice B2 m m] 80
    simp only at hx9
    have hs := below_alloc u2 (.cells #[.slice A2 n n, .slice B2 m m] 80)
    obtain ⟨g8, g9, gk⟩ := hx9.two
    go_wp2_with fail
    generalize u2.alloc (.cells #[.slice A2 n n, .slice B2 m m] 80) = u3 at *
    replace p2 := p2.keep hs
    replace q2 := q2.keep hs
    replace r1 := r1.keep hs
    replace hx5 := hx5.keep hs
    replace hbD := below_on hbD hs
    generalize u2.heap.size = N9 at *
    clear hs g8 g9 gk
    refine (implOverloadOf_any _ _ _ _ _ _ _ _ _ l wk ex q _ r1 HO.out p2 q2).mono ?_
    rintro e u4 ⟨rfl, hs⟩
    replace p2 := p2.keep hs
    replace q2 := q2.keep hs
    replace r1 := r1.keep hs
    replace hx5 := hx5.keep hs
    replace hx9 := hx9.keep hs
    replace hbD := below_on hbD hs
    clear hs
    go_wp2_with fail
    refine (toLoadS_any _ _ _ l _ (hl.keep hbD)).mono ?_
    rintro e u5 ⟨X2, rfl, r2, hs⟩
    replace p2 := p2.keep hs
    replace q2 := q2.keep hs
    replace r1 := r1.keep hs
    replace hx5 := hx5.keep hs
    replace hx9 := hx9.keep hs
    replace hbD := below_on hbD hs
    clear hs
    go_wp2_with fail
    refine (eqLoadS_yes _ _ _ _ _ _ l _ r1 (r2.rows len0)).mono ?_
    rintro e u6 ⟨rfl, hs⟩
    replace p2 := p2.keep hs
    replace q2 := q2.keep hs
    replace hx5 := hx5.keep hs
    replace hx9 := hx9.keep hs
    replace hbD := below_on hbD hs
    clear hs r1 r2
    obtain ⟨g0, g1, gl⟩ := hx5.two
    obtain ⟨g8, g9, gk⟩ := hx9.two
    have p4 := p2.keep (Below.refl u6.heap.size u6).drew
    have q4 := q2.keep (Below.refl u6.heap.size u6).drew
    go_wp2_with fail
    go_region_with (first
      | (go_at_call 54; refine (toCalendar_any _ _ _ _ _ _ wk ex _ (ha.keep hbD.drew) (hb.keep hbD.drew)).mono ?_; rintro e w8 ⟨A3, B3, rfl, p3, q3, hs⟩; have z8 := (hs.cell (p := ⟨N9, 0, none⟩) gk).trans g8; have z9 := (hs.cell (p := ⟨N9, 1, none⟩) gk).trans g9)
      | (go_at_call 56; refine (eqCalendar_yes _ _ _ _ _ _ _ _ _ _ _ _ wk ex _ (p4.keep hs) (q4.keep hs) p3 q3).mono ?_; rintro e w9 ⟨rfl, hs9⟩))
    all_goals
      go_wp2_with fail
      go_ret
      exact ⟨rfl, below_on (below_on hbD.drew hs) hs9⟩
end Go.Proofs.Ytcfcfgecdlpflaa
