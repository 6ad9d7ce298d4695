/- The walk of the law FnExactSmoothLoads: for every input it returns true, and no memory that was there is written. -/
import Derived.Test.YtmkfinahbelpdaaSmoothImpl
import Derived.Test.YtmkfinahbelpdaaLoadMark
import Derived.Test.YtmkfinahbelpdaaIntMark
import Derived.Test.YtmkfinahbelpdaaOpenLoads
import Derived.Test.YtmkfinahbelpdaaOpenCal
namespace Go.Proofs.Ytmkfinahbelpdaa
open Go.RowKit
theorem BoxOf.only {w w' : World} {lo hi N : Nat} {cs : List Value} (h : BoxOf w N cs) (ho : Only lo hi w w') (hd : N < lo ∨ hi ≤ N) : BoxOf w' N cs :=
  ⟨Nat.lt_of_lt_of_le h.1 ho.size, fun j u hu => by rw [World.cell?_of_block (ho.block N h.1 (by omega))]; exact h.2 j u hu⟩
theorem len_pair {r : List Ld × Bool} {L : List Ld} {b : Bool} {n : Nat} (h : r = (L, b)) (hl : L.length ≤ n) : r.1.length ≤ n := by subst h; exact hl
theorem smoothLoads_len (l : List Ld) (wk : List Int) (ex : List (Int × Int)) (q : Int) : (smoothLoads l wk ex q).1.length ≤ 1000 := by
  cases h : (areMinutes l && (isCal wk ex && inB q 0 20))
  · exact len_pair (smoothLoads_no h) (Nat.zero_le _)
  · exact len_pair (smoothLoads_yes h) (outTo_len (l.headD ldNone).1 (smRow l wk ex q 999) 1000)
set_option maxRecDepth 100000 in
set_option maxHeartbeats 1000000 in
theorem markCalendar_any (A B : Option Addr) (n m c d lo M hi : Nat) (wk : List Int) (ex : List Ex) (k0 : Int) (w : World) (ha : IntsAt w lo M A n c wk) (hb : RowsAt exF 103 w M hi B m d ex) (hlM : lo ≤ M) (hMh : M ≤ hi) (hk0 : 0 ≤ k0) (hk1 : k0 ≤ 100000000) (h1 : wk.length ≤ 16777216) (h2 : ex.length ≤ 16777216) :
    Calls Try.prog 30 #[.agg #[.slice A n c, .slice B m d], .int .i64 k0] w fun e w' => e = .returned (.int .i64 (k0 + wk.length + 2 * ex.length)) ∧ Only lo hi w w' := by
  have hs := below_alloc w (.cells #[.slice A n c, .slice B m d] 28)
  have hx := boxOf_alloc w #[.slice A n c, .slice B m d] 28
  simp only at hx
  have hwz : M ≤ w.heap.size := ha.2.2.1
  have hwh : hi ≤ w.heap.size := hb.2.2.1
  have ho : Only lo hi w (w.alloc (.cells #[.slice A n c, .slice B m d] 28)) := Only.of_below hs
  replace ha := ha.keep hs
  replace hb := hb.keep hs
  obtain ⟨g0, g1, gl⟩ := hx.two
  clear hs
  go_enter Try.func30, Try.ntmps30
  go_wp2_with fail
  generalize w.alloc (.cells #[.slice A n c, .slice B m d] 28) = w1 at *
  refine (markIntS_any _ _ _ _ _ wk _ _ ha hk0 (by omega) h1).mono ?_
  rintro e w2 ⟨rfl, _, hs⟩
  have hb2 := hb.only hs (.inr (Nat.le_refl _))
  have hx2 := hx.only hs (.inr (by omega))
  have ho2 : Only lo hi w w2 := ho.trans ⟨hs.os, hs.tape, hs.output, hs.size, fun k hk hn => hs.block k hk (fun h => hn ⟨h.1, by omega⟩)⟩
  clear g0 g1 gl ha
  obtain ⟨g0, g1, gl⟩ := hx2.two
  go_wp2_with fail
  refine (markExceptionS_any _ _ _ _ _ ex _ _ hb2 (by omega) (by omega) h2).mono ?_
  rintro e w3 ⟨rfl, _, hs3⟩
  have ho3 : Only lo hi w w3 := ho2.trans ⟨hs3.os, hs3.tape, hs3.output, hs3.size, fun k hk hn => hs3.block k hk (fun h => hn ⟨by omega, h.2⟩)⟩
  go_wp2_with fail
  go_ret
  exact ⟨rfl, ho3⟩
set_option maxRecDepth 100000 in
set_option maxHeartbeats 4000000 in
theorem lawSmoothLoads {w : World} (A0 : Option Addr) (n0 c0 : Nat) (l : List Ld) (hl0 : n0 ≤ 1048576 → LoadsIn w A0 n0 l ∧ ∀ x ∈ l, okLd x) (hn0 : n0 ≤ 9223372036854775807)
    (A : Option Addr) (n c : Nat) (B : Option Addr) (m d : Nat) (wk : List Int) (ex : List Ex) (hcal : n ≤ 1048576 → m ≤ 1048576 → IntsIn w A n wk ∧ ExsIn w B m ex) (hn : n ≤ 9223372036854775807) (hm : m ≤ 9223372036854775807)
    (q : Int) (_wq : (Lit.int .i64 q).wf = true) :
    Calls Try.prog 6 #[.slice A0 n0 c0, .agg #[.slice A n c, .slice B m d], .int .i64 q] w fun e w' => e = .returned (.bool true) ∧ Below w.heap.size w w' := by
  have hb0 := below_alloc w (.cells #[.slice A n c, .slice B m d] 58)
  have hx0 := boxOf_alloc w #[.slice A n c, .slice B m d] 58
  simp only at hx0
  go_enter Try.func6, Try.ntmps6
  go_wp2_with fail
  generalize w.alloc (.cells #[.slice A n c, .slice B m d] 58) = w1 at *
  by_cases big0 : (1048576 : Int) < (n0 : Int)
  · refine (szLoadS_big _ _ _ _ _ big0 (by omega) (by omega)).mono ?_
    rintro e v1 ⟨rfl, rfl⟩
    go_wp2_with fail
    go_ret
    exact ⟨rfl, hb0⟩
  obtain ⟨hl, ok0⟩ := hl0 (by omega)
  have len0 := hl.len
  have bg0 : (n0 : Int) ≤ 1048576 := by omega
  clear hl0 big0
  refine (szLoadS_any _ _ _ l _ _ (by omega) (by omega) (hl.keep hb0) ok0).mono ?_
  rintro e v1 ⟨r0, rfl, ra, rb, hs⟩
  replace hx0 := hx0.keep hs
  replace hb0 := below_on hb0 hs
  clear hs
  by_cases neg : r0 < 0
  · go_wp2_with fail
    go_ret
    exact ⟨rfl, hb0⟩
  have rc : 0 ≤ r0 := by omega
  clear neg ra
  obtain ⟨g0, g1, gl⟩ := hx0.two
  go_wp2_with fail
  clear g0 g1 gl
  by_cases big : r0 < (n : Int) + m
  · refine (szCalendar_big _ _ _ _ _ _ _ _ big rc rb hn hm).mono ?_
    rintro e v2 ⟨rfl, hs⟩
    go_wp2_with fail
    go_ret
    exact ⟨rfl, below_on hb0 hs⟩
  obtain ⟨ha, hb⟩ := hcal (by omega) (by omega)
  have small : (n : Int) + m ≤ r0 := by omega
  clear hcal big
  refine (szCalendar_ok _ _ _ _ _ _ _ _ small rb).mono ?_
  rintro e v2 ⟨rfl, hs⟩
  replace hx0 := hx0.keep hs
  replace hb0 := below_on hb0 hs
  clear hs
  have HO := Lib.hid ok0
  clear ok0
  obtain ⟨g0, g1, gl⟩ := hx0.two
  go_wp2_with fail
  have rlen : (smoothLoads l wk ex q).1.length ≤ 16777216 := Nat.le_trans (smoothLoads_len l wk ex q) (by omega)
  have rl2 := smoothLoads_len l wk ex q
  have lenw := ha.len
  have lene := hb.len
  generalize hR : smoothLoads l wk ex q = R at *
  have HR := Lib.hid hR
  clear hR
  go_region_with (first
    | (go_at_call 25; first
        | (refine (toLoadS_any _ _ _ l _ (hl.keep hbC)).mono ?_; rintro e wA ⟨X0, rfl, p0, hsA⟩; have hbA := below_on hbC hsA; have p1' := p1.keep hsA; have q1' := q1.keep hsA; have p0' := p0.rows len0)
        | (refine (toLoadS_any _ _ _ l _ (hl.keep hb0.drew)).mono ?_; rintro e wA ⟨X0, rfl, p0, hsA⟩; have hbA := below_on hb0.drew hsA; have y0 := (hsA.cell (p := ⟨w.heap.size, 0, none⟩) gl).trans g0; have y1 := (hsA.cell (p := ⟨w.heap.size, 1, none⟩) gl).trans g1))
    | (go_at_call 26; first
        | (refine (toCalendar_any _ _ _ _ _ _ wk ex _ (ha.keep hbA) (hb.keep hbA)).mono ?_; rintro e wC ⟨A1, B1, rfl, p1', q1', hsC⟩; have hbC := below_on hbA hsC; have p0' := (p0.rows len0).keep hsC)
        | (refine (toCalendar_any _ _ _ _ _ _ wk ex _ (ha.keep hb0.drew) (hb.keep hb0.drew)).mono ?_; rintro e wC ⟨A1, B1, rfl, p1, q1, hsC⟩; have hbC := below_on hb0.drew hsC))
    | (go_at_call 10; refine (specSmoothLoads_any _ _ _ _ _ _ _ _ _ l wk ex q _ p0' HO.out p1' q1').mono ?_; rintro e v0 ⟨XW, CW, rfl, W0, hs⟩; rw [HR.out] at W0))
  all_goals
    have hbD : Below w.heap.size w v0 := by first | exact below_on hbA hs | exact below_on hbC hs
    have hx5 : BoxOf v0 w.heap.size [.slice A n c, .slice B m d] := by
      first
        | exact hx0.keep (below_on (below_on (Below.refl _ _).drew hsA) (below_on hsC hs))
        | exact hx0.keep (below_on (below_on (Below.refl _ _).drew hsC) (below_on hsA hs))
    replace W0 : RowsAt ldF 34 v0 (w.heap.size + 1) v0.heap.size XW R.1.length CW R.1 := OwnRows.at_ (W0.lower (by first | (have h1 := (below_on (below_on (Below.refl _ _).drew hsA) hsC).size; have h2 := hx0.1; omega) | (have h1 := (below_on (below_on (Below.refl _ _).drew hsC) hsA).size; have h2 := hx0.1; omega)))
    have hz0 := hx5.1
    try rw [HR.out]
    clear hs hb0 hx0 g0 g1 gl
    go_wp2_with fail
    refine (toLoadS_any _ _ _ l _ (hl.keep hbD)).mono ?_
    rintro e v1 ⟨Xx0, rfl, x0, hs⟩
    replace x0 := x0.at_
    have hz1 := hs.size
    replace hbD := below_on hbD hs
    replace W0 := W0.keep hs
    replace hx5 := hx5.keep hs
    clear hs
    obtain ⟨g0, g1, gl⟩ := hx5.two
    go_wp2_with fail
    clear g0 g1 gl
    refine (toCalendar_own _ _ _ _ _ _ wk ex _ (ha.keep hbD) (hb.keep hbD)).mono ?_
    rintro e v2 ⟨A2, B2, M2, rfl, hM, p2, q2, hs⟩
    have hMz : M2 ≤ v2.heap.size := p2.2.2.1
    have hz2 := hs.size
    replace hbD := below_on hbD hs
    replace W0 := W0.keep hs
    replace x0 := x0.keep hs
    replace hx5 := hx5.keep hs
    clear hs
    have hx9 := boxOf_alloc v2 #[.slice A2 n n, .slice B2 m m] 28
    simp only at hx9
    have hs := below_alloc v2 (.cells #[.slice A2 n n, .slice B2 m m] 28)
    obtain ⟨g8, g9, gk⟩ := hx9.two
    go_wp2_with fail
    have hN9 : v2.heap.size < (v2.alloc (.cells #[.slice A2 n n, .slice B2 m m] 28)).heap.size := by simp
    generalize v2.alloc (.cells #[.slice A2 n n, .slice B2 m m] 28) = v3 at *
    have hz3 := hs.size
    replace hbD := below_on hbD hs
    replace W0 := W0.keep hs
    replace x0 := x0.keep hs
    replace p2 := p2.keep hs
    replace q2 := q2.keep hs
    replace hx5 := hx5.keep hs
    clear hs
    clear g8 g9 gk
    refine (implSmoothLoads_any _ _ _ _ _ _ _ _ _ l wk ex q _ (x0.rows len0) HO.out (p2.rows lenw) (q2.rows lene)).mono ?_
    rintro e v4 ⟨XG, CG, rfl, G0, hs⟩
    rw [HR.out] at G0
    rw [HR.out]
    replace G0 := G0.at_
    have hz4 := hs.size
    replace hbD := below_on hbD hs
    replace W0 := W0.keep hs
    replace x0 := x0.keep hs
    replace p2 := p2.keep hs
    replace q2 := q2.keep hs
    replace hx5 := hx5.keep hs
    replace hx9 := hx9.keep hs
    clear hs
    go_wp2_with fail
    refine (eqLoadS_yes _ _ _ _ _ _ R.1 _ (G0.rows rlen) (W0.rows rlen)).mono ?_
    rintro e v5 ⟨rfl, hs⟩
    have hz5 := hs.size
    replace hbD := below_on hbD hs
    replace W0 := W0.keep hs
    replace x0 := x0.keep hs
    replace p2 := p2.keep hs
    replace q2 := q2.keep hs
    replace G0 := G0.keep hs
    replace hx5 := hx5.keep hs
    replace hx9 := hx9.keep hs
    clear hs
    go_wp2_with fail
    refine (toLoadS_any _ _ _ l _ (hl.keep hbD)).mono ?_
    rintro e v6 ⟨Xy0, rfl, y0, hs⟩
    replace y0 := y0.at_
    have hz6 := hs.size
    replace hbD := below_on hbD hs
    replace W0 := W0.keep hs
    replace x0 := x0.keep hs
    replace p2 := p2.keep hs
    replace q2 := q2.keep hs
    replace G0 := G0.keep hs
    replace hx5 := hx5.keep hs
    replace hx9 := hx9.keep hs
    clear hs
    go_wp2_with fail
    refine (eqLoadS_yes _ _ _ _ _ _ l _ (x0.rows len0) (y0.rows len0)).mono ?_
    rintro e v7 ⟨rfl, hs⟩
    have hz7 := hs.size
    replace hbD := below_on hbD hs
    replace W0 := W0.keep hs
    replace x0 := x0.keep hs
    replace p2 := p2.keep hs
    replace q2 := q2.keep hs
    replace G0 := G0.keep hs
    replace y0 := y0.keep hs
    replace hx5 := hx5.keep hs
    replace hx9 := hx9.keep hs
    clear hs
    clear y0
    obtain ⟨g0, g1, gl⟩ := hx5.two
    obtain ⟨g8, g9, gk⟩ := hx9.two
    have p4 := (p2.keep (Below.refl v7.heap.size v7).drew).rows lenw
    have q4 := (q2.keep (Below.refl v7.heap.size v7).drew).rows lene
    go_wp2_with fail
    go_region_with (first
      | (go_at_call 26; refine (toCalendar_any _ _ _ _ _ _ wk ex _ (ha.keep hbD.drew) (hb.keep hbD.drew)).mono ?_; rintro e wD ⟨A3, B3, rfl, p3, q3, hs⟩; have z8 := (hs.cell (p := ⟨v2.heap.size, 0, none⟩) gk).trans g8; have z9 := (hs.cell (p := ⟨v2.heap.size, 1, none⟩) gk).trans g9)
      | (go_at_call 28; refine (eqCalendar_yes _ _ _ _ _ _ _ _ _ _ _ _ wk ex _ (p4.keep hs) (q4.keep hs) p3 q3).mono ?_; rintro e v8 ⟨rfl, hs9⟩))
    all_goals
      have hsE : Below v7.heap.size v7 v8 := below_on (below_on (Below.refl _ _).drew hs) hs9
      clear hs hs9 g0 g1 gl g8 g9 gk p4 q4
      have hz8 := hsE.size
      replace hbD := below_on hbD hsE
      replace W0 := W0.keep hsE
      replace x0 := x0.keep hsE
      replace p2 := p2.keep hsE
      replace q2 := q2.keep hsE
      replace G0 := G0.keep hsE
      replace hx5 := hx5.keep hsE
      replace hx9 := hx9.keep hsE
      clear hsE
      go_wp2_with fail
      refine (markLoadS_any _ _ _ _ _ l _ _ x0 (by omega) (by omega) len0).mono ?_
      rintro e v9 ⟨rfl, _, hs⟩
      clear x0
      have hz9 := hs.size
      replace hbD := below_only hbD hs (by omega) (by omega)
      replace W0 := W0.only hs (by omega)
      replace p2 := p2.only hs (by omega)
      replace q2 := q2.only hs (by omega)
      replace G0 := G0.only hs (by omega)
      replace hx5 := hx5.only hs (by omega)
      replace hx9 := hx9.only hs (by omega)
      clear hs
      obtain ⟨g8, g9, gk⟩ := hx9.two
      go_wp2_with fail
      refine (markCalendar_any _ _ _ _ _ _ _ _ _ wk ex _ _ p2 q2 (by omega) (by omega) (by omega) (by omega) lenw lene).mono ?_
      rintro e v10 ⟨rfl, hs⟩
      clear p2 q2 g8 g9 gk
      clear hx9
      have hz10 := hs.size
      replace hbD := below_only hbD hs (by omega) (by omega)
      replace W0 := W0.only hs (by omega)
      replace G0 := G0.only hs (by omega)
      replace hx5 := hx5.only hs (by omega)
      clear hs
      go_wp2_with fail
      refine (eqLoadS_yes _ _ _ _ _ _ R.1 _ (G0.rows rlen) (W0.rows rlen)).mono ?_
      rintro e v11 ⟨rfl, hs⟩
      have hz11 := hs.size
      replace hbD := below_on hbD hs
      replace W0 := W0.keep hs
      replace G0 := G0.keep hs
      replace hx5 := hx5.keep hs
      clear hs
      go_wp2_with fail
      refine (markLoadS_own _ _ _ _ _ R.1 _ _ G0 (by omega) (by omega) rlen).mono ?_
      rintro e v12 ⟨rfl, M0, hs⟩
      clear G0
      have hz12 := hs.size
      replace hbD := below_only hbD hs (by omega) (by omega)
      replace W0 := W0.only hs (by omega)
      replace hx5 := hx5.only hs (by omega)
      clear hs
      go_wp2_with fail
      refine (heldLoadS_any _ _ _ R.1 _ _ (M0.rows (by rw [marksLd_len]; exact rlen)) (by omega) (by omega)).mono ?_
      rintro e v13 ⟨rfl, hs⟩
      have hz13 := hs.size
      replace hbD := below_on hbD hs
      replace W0 := W0.keep hs
      replace M0 := M0.keep hs
      replace hx5 := hx5.keep hs
      clear hs
      obtain ⟨g0, g1, gl⟩ := hx5.two
      go_wp2_with fail
      go_region_with (first
        | (go_at_call 25; first
            | (refine (toLoadS_any _ _ _ l _ (hl.keep hcC)).mono ?_; rintro e wF ⟨X7, rfl, r0, hsF⟩; have hcA := below_on hcC hsF; have r1' := r1.keep hsF; have t1' := t1.keep hsF; have r0' := r0.rows len0)
            | (refine (toLoadS_any _ _ _ l _ (hl.keep hbD.drew)).mono ?_; rintro e wF ⟨X7, rfl, r0, hsF⟩; have hcA := below_on hbD.drew hsF; have y0 := (hsF.cell (p := ⟨w.heap.size, 0, none⟩) gl).trans g0; have y1 := (hsF.cell (p := ⟨w.heap.size, 1, none⟩) gl).trans g1))
        | (go_at_call 26; first
            | (refine (toCalendar_any _ _ _ _ _ _ wk ex _ (ha.keep hcA) (hb.keep hcA)).mono ?_; rintro e wH ⟨A8, B8, rfl, r1', t1', hsH⟩; have hcC := below_on hcA hsH; have r0' := (r0.rows len0).keep hsH)
            | (refine (toCalendar_any _ _ _ _ _ _ wk ex _ (ha.keep hbD.drew) (hb.keep hbD.drew)).mono ?_; rintro e wH ⟨A8, B8, rfl, r1, t1, hsH⟩; have hcC := below_on hbD.drew hsH))
        | (go_at_call 9; refine (implSmoothLoads_any _ _ _ _ _ _ _ _ _ l wk ex q _ r0' HO.out r1' t1').mono ?_; rintro e v14 ⟨XH, CH, rfl, H0, hs⟩; rw [HR.out] at H0))
      all_goals
        have hsE : Below v13.heap.size v13 v14 := by
          first
            | exact below_on (below_on (Below.refl _ _).drew hsF) (below_on hsH hs)
            | exact below_on (below_on (Below.refl _ _).drew hsH) (below_on hsF hs)
        replace H0 := H0.at_
        try rw [HR.out]
        clear hs g0 g1 gl
        have hz14 := hsE.size
        replace hbD := below_on hbD hsE
        replace W0 := W0.keep hsE
        replace M0 := M0.keep hsE
        replace hx5 := hx5.keep hsE
        clear hsE
        go_wp2_with fail
        refine (eqLoadS_yes _ _ _ _ _ _ R.1 _ (H0.rows rlen) (W0.rows rlen)).mono ?_
        rintro e v15 ⟨rfl, hs⟩
        have hz15 := hs.size
        replace hbD := below_on hbD hs
        replace W0 := W0.keep hs
        replace M0 := M0.keep hs
        replace H0 := H0.keep hs
        replace hx5 := hx5.keep hs
        clear hs
        go_wp2_with fail
        refine (heldLoadS_any _ _ _ R.1 _ _ (M0.rows (by rw [marksLd_len]; exact rlen)) (by omega) (by omega)).mono ?_
        rintro e v16 ⟨rfl, hs⟩
        have hz16 := hs.size
        replace hbD := below_on hbD hs
        replace W0 := W0.keep hs
        replace M0 := M0.keep hs
        replace H0 := H0.keep hs
        replace hx5 := hx5.keep hs
        clear hs
        go_wp2_with fail
        go_ret
        exact ⟨rfl, hbD⟩
end Go.Proofs.Ytmkfinahbelpdaa
