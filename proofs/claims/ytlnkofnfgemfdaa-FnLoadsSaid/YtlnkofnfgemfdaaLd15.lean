/- Part 15 of the texts of this claim: The walk of LoadsOf (the reference's). -/
import Derived.Test.YtlnkofnfgemfdaaLd11
import Derived.Test.YtlnkofnfgemfdaaLd6
/- The walk of LoadsOf (the reference's). -/
namespace Go.Proofs.Ytlnkofnfgemfdaa
open Go.RowKit
set_option maxRecDepth 100000 in
set_option maxHeartbeats 8000000 in
theorem specLoadsOf_any (A B : Option Addr) (n c m d : Nat) (r : List Rt) (l : List Pl) (w : World) (hr : RoutingsIn w A n r) (hl : PlannedsIn w B m l) (hok : ∀ x ∈ r, okRt x) :
    Calls Try.prog 31 #[.slice A n c, .slice B m d] w (PairRowsOf ldF 91 w (loadsOf r l)) := by
  have hnr := hr.len
  obtain rfl := hr.num
  have hnl := hl.len
  obtain rfl := hl.1
  have HO := Lib.hid hok
  clear hok
  have hb0 := below_alloc w (.cells #[] 91)
  have hrow0 : RowVal ldF 91 (w.alloc (.cells #[] 91)) w.heap.size (.slice (some ⟨w.heap.size, 0, none⟩) 0 0) [] := empty_row rfl (Nat.le_refl _)
  go_enter Try.func31, Try.ntmps31
  go_wp2_with fail
  generalize (w.alloc (.cells #[] 91)) = V at *
  refine (specAreRoutings_any _ _ _ r _ (hr.keep hb0) HO.out).mono ?_
  rintro e w1 ⟨rfl, hs⟩
  replace hb0 := below_on hb0 hs
  replace hrow0 := hrow0.keep hs
  clear hs
  cases g1 : areRoutings r
  · go_wp2_with fail
    go_ret2
    exact pairRowsOf_mk (loadsOf_no (by rw [g1]; rfl)) hrow0 hb0
  by_cases h500 : (l.length : Int) ≤ 500
  case neg =>
    have h5 : (500 : Int) < (l.length : Int) := by omega
    go_wp2_with fail
    go_ret2
    exact pairRowsOf_mk (loadsOf_no (by rw [g1, decide_eq_false (by omega)]; rfl)) hrow0 hb0
  have HAR := Lib.hid (areRoutings_parts g1)
  have HLB : Hid (∀ k, k ≤ l.length → (loadsTo r l k).length ≤ 3000 ∧ ∀ x ∈ loadsTo r l k, 0 ≤ x.2.2 ∧ x.2.2 ≤ 300003000000) := fun k hk => by
    obtain ⟨h1, h2⟩ := loadsTo_bd0 r l k g1
    exact ⟨by omega, fun x hx => by have := h2 x hx; omega⟩
  go_wp2_with fail
  go_loopw [6, 7] (fun v i wr => ∃ k : Nat, k ≤ l.length ∧ i = .int .i64 k ∧ Hid ((l.take k).all okPl1 = true) ∧ RowVal ldF 91 wr w.heap.size v (loadsTo r l k) ∧ Below w.heap.size w wr) (fun _ i _ => l.length - (intOf i).toNat)
  case atStart => exact ⟨0, by omega, rfl, rfl, hrow0, hb0⟩
  case round =>
    clear hrow0 hb0
    obtain ⟨k, hk, rfl, HI, hrow, hb⟩ := hrel
    by_cases hlt : k < l.length
    case neg =>
      obtain rfl : k = l.length := by omega
      have HF := Lib.hid (loadsOf_yes g1 h500 HI.out)
      obtain ⟨A9, c9, rfl, ho⟩ := hrow.form
      go_wp2_with fail
      go_ret2
      exact pairRowsOf_mk HF.out ho.val hb
    have HAT := Lib.hid (all_take l okPl1 k hlt)
    have HLT := Lib.hid (loadsTo_succ r l k hlt)
    obtain ⟨b, o, rfl, hbl, hc0, hc1, hc2, hc3, hc4⟩ := planned_at (hl.keep hb) hlt
    go_wp2_with fail
    clear hc0 hc1 hc2 hc3 hc4 hbl
    refine (specFindRouting_any _ _ _ r _ _ (hr.keep hb)).mono ?_
    rintro e w2 ⟨rfl, hs⟩
    replace hb := below_on hb hs
    replace hrow := hrow.keep hs
    clear hs
    obtain ⟨_, _, e9, hbl, hc0, hc1, hc2, hc3, hc4⟩ := planned_at (hl.keep hb) hlt
    obtain ⟨rfl, rfl⟩ : b = _ ∧ o = _ := by simpa using e9
    clear e9
    obtain ⟨A9, c9, rfl, ho⟩ := hrow.form
    clear hrow
    cases g2 : inB l[k].2.1 1 100000
    case false =>
      have HF := Lib.hid (loadsOf_bad (r := r) hlt (by unfold okPl1; rw [g2]; rfl))
      go_wp2_with (go_at_call 73; refine (l1In_any _ _ _ _).mono ?_; rintro e w' ⟨rfl, rfl⟩)
      go_ret2
      exact pairRowsOf_mk HF.out (empty_row (F := ldF) (e := 91) (w := w2) (lo := w.heap.size) rfl hb.size) (hb.alloc hb.size _)
    cases g3 : inB l[k].2.2.1 0 999
    case false =>
      have HF := Lib.hid (loadsOf_bad (r := r) hlt (by unfold okPl1; rw [g2, g3]; rfl))
      go_wp2_with (go_at_call 73; refine (l1In_any _ _ _ _).mono ?_; rintro e w' ⟨rfl, rfl⟩)
      go_ret2
      exact pairRowsOf_mk HF.out (empty_row (F := ldF) (e := 91) (w := w2) (lo := w.heap.size) rfl hb.size) (hb.alloc hb.size _)
    have HY : Hid ((l.take (k + 1)).all okPl1 = true) := by show _ = _; rw [HAT.out, HI.out]; unfold okPl1; rw [g2, g3]; rfl
    have hq9 := inB_iff.1 g2
    obtain ⟨f1, f2⟩ := findRt_bd r l[k].1
    by_cases hf : 0 ≤ findRt r l[k].1
    case neg =>
      have hf2 : findRt r l[k].1 < 0 := by omega
      have HSAME : Hid (loadsTo r l (k + 1) = loadsTo r l k) := by show _ = _; rw [HLT.out]; unfold loadsPl stepsOf; rw [if_neg hf]; rfl
      go_wp2_with (go_at_call 73; refine (l1In_any _ _ _ _).mono ?_; rintro e w' ⟨rfl, rfl⟩)
      refine wp_loop_rounds 1 ?_
      rw [rounds_succ]
      go_wp2_with fail
      go_roundw
      case rel => exact ⟨k + 1, by omega, by go_num, HY.out, by rw [HSAME.out]; exact ho.val, hb⟩
      case measure => simp [intOf]; omega
    obtain ⟨qn, hqn⟩ : ∃ qn : Nat, findRt r l[k].1 = (qn : Int) := ⟨(findRt r l[k].1).toNat, by omega⟩
    have q1 : qn < r.length := by omega
    have q2 : (qn : Int) < (r.length : Int) := by omega
    have q3 : (0 : Int) ≤ (qn : Int) := by omega
    have HST : Hid (stepsOf r l[k] = r[qn].2) := by show _ = _; unfold stepsOf; rw [if_pos hf, hqn, Int.toNat_natCast, rt_getD _ _ q1]
    obtain ⟨_, h6⟩ := isRouting_parts (HAR.out.2 qn q1)
    have hok6 := (HO.out _ (List.getElem_mem q1)).2
    have HOK6 := Lib.hid hok6
    rw [hqn]
    clear hqn hf f1 f2 hok6
    have HL2 : Hid (loadsTo r l (k + 1) = (r[qn].2.take r[qn].2.length).foldl (loadsOne l[k]) (loadsTo r l k)) := by show _ = _; rw [HLT.out]; unfold loadsPl; rw [HST.out, List.take_length]
    have HFB := Lib.hid (fun j => loadsF_bd l[k] r[qn].2 (loadsTo r l k) j (HLB.out k hk).2)
    have hlk := (HLB.out k hk).1
    have HST1 := Lib.hid (fun j (hj : j < r[qn].2.length) => loadsF_succ l[k] r[qn].2 (loadsTo r l k) j hj)
    generalize loadsTo r l k = s0 at *
    have hrow : RowVal ldF 91 w2 w.heap.size (.slice A9 s0.length c9) ((r[qn].2.take 0).foldl (loadsOne l[k]) s0) := ho.val
    clear ho
    obtain ⟨br, or_, Bs, ms, cs, hae, hbr, _, r1, hst⟩ := rt_at (hr.keep hb) q1
    subst hae
    have hms := hst.1
    subst hms
    go_wp2_with (go_at_call 73; refine (l1In_any _ _ _ _).mono ?_; rintro e w' ⟨rfl, rfl⟩)
    have HSI := Lib.hid hst
    clear hst hc0 hc1 hc2 hc3 hc4 hbl r1 hbr
    go_loopw [6, 9] (fun v i wr => ∃ j : Nat, j ≤ r[qn].2.length ∧ i = .int .i64 j ∧ RowVal ldF 91 wr w.heap.size v ((r[qn].2.take j).foldl (loadsOne l[k]) s0) ∧ Below w.heap.size w wr ∧ Below w2.heap.size w2 wr) (fun _ i _ => r[qn].2.length - (intOf i).toNat)
    case atStart => exact ⟨0, by omega, rfl, hrow, hb, Below.refl _ _⟩
    case round =>
      clear hrow hb
      obtain ⟨j, hj, rfl, hrow, hb, hb2⟩ := hrel
      obtain ⟨_, _, e9, hbl, hc0, hc1, hc2, hc3, hc4⟩ := planned_at (hl.keep hb) hlt
      obtain ⟨rfl, rfl⟩ : b = _ ∧ o = _ := by simpa using e9
      clear e9
      obtain ⟨_, _, Bs2, ms2, cs2, e9, hbr, _, r1, hst⟩ := rt_at (hr.keep hb) q1
      obtain ⟨rfl, rfl⟩ : br = _ ∧ or_ = _ := by simpa using e9
      have hms2 := hst.1
      subst hms2
      clear e9
      by_cases hjl : j < r[qn].2.length
      case neg =>
        obtain rfl : j = r[qn].2.length := by omega
        rw [← HL2.out] at hrow
        go_wp2_with fail
        go_roundw
        case rel => exact ⟨k + 1, by omega, by go_num, HY.out, hrow, hb⟩
        case measure => simp [intOf]; omega
      obtain ⟨bs, os, hae, hbs, s1, s2, s3⟩ := step_at hst hjl
      subst hae
      have j1 : (j : Int) < (r[qn].2.length : Int) := by omega
      have HJ := Lib.hid (HST1.out j hjl)
      obtain ⟨hlj, hbj⟩ := HFB.out j
      have HBJ := Lib.hid hbj
      clear hbj
      have hsz9 := HOK6.out _ (List.getElem_mem hjl)
      obtain ⟨A8, c8, rfl, ho⟩ := hrow.form
      have hcap := own_capL ho
      generalize (r[qn].2.take j).foldl (loadsOne l[k]) s0 = sj at *
      clear hrow
      go_wp2_with fail
      refine wp_region_held_drew (S := (fun w' => w'.cell? ⟨br, or_ + qn * 2 + 1, none⟩ = some (.slice (some ⟨bs, os, none⟩) r[qn].2.length cs2) ∧ w'.cell? ⟨bs, os + j * 3, none⟩ = some (.string r[qn].2[j].1) ∧ w'.cell? ⟨bs, os + j * 3 + 1, none⟩ = some (.int .i64 r[qn].2[j].2.1) ∧ w'.cell? ⟨bs, os + j * 3 + 2, none⟩ = some (.int .i64 r[qn].2[j].2.2) ∧ w'.cell? ⟨b, o + k * 5 + 1, none⟩ = some (.int .i64 l[k].2.1) ∧ w'.cell? ⟨b, o + k * 5 + 2, none⟩ = some (.int .i64 l[k].2.2.1) ∧ b < w'.heap.size ∧ br < w'.heap.size ∧ bs < w'.heap.size ∧ Below wr.heap.size wr w')) (by kernel_rfl) ⟨r1, s1, s2, s3, hc1, hc2, hbl, hbr, hbs, (Below.refl _ _).drew⟩ (fun hHeld => ?_)
      refine held_on 0 (some 67) rfl rfl (by kernel_rfl) (by kernel_rfl) (by kernel_rfl) (fun _ _ _ h => h) (by rfl) hHeld (v := ?v1) ?y1 ?r1
      case y1 => intro w hSw; (try dsimp only at hSw); go_simp; (try with_reducible rfl)
      try simp only [Act.put, List.setIfInBounds_toArray, List.set_cons_zero, List.set_cons_succ]
      refine held_on 1 (some 68) rfl rfl (by kernel_rfl) (by kernel_rfl) (by kernel_rfl) (fun _ _ _ h => h) (by rfl) hHeld (v := ?v2) ?y2 ?r2
      case y2 => intro w hSw; (try dsimp only at hSw); go_simp; (try with_reducible rfl)
      try simp only [Act.put, List.setIfInBounds_toArray, List.set_cons_zero, List.set_cons_succ]
      refine held_on 2 (some 69) rfl rfl (by kernel_rfl) (by kernel_rfl) (by kernel_rfl) (fun _ _ _ h => h) (by rfl) hHeld (v := ?v3) ?y3 ?r3
      case y3 => intro w hSw; (try dsimp only at hSw); go_simp; (try with_reducible rfl)
      try simp only [Act.put, List.setIfInBounds_toArray, List.set_cons_zero, List.set_cons_succ]
      refine held_on 3 (some 70) rfl rfl (by kernel_rfl) (by kernel_rfl) (by kernel_rfl) (fun _ _ _ h => h) (by rfl) hHeld (v := ?v4) ?y4 ?r4
      case y4 => intro w hSw; (try dsimp only at hSw); go_simp; (try with_reducible rfl)
      try simp only [Act.put, List.setIfInBounds_toArray, List.set_cons_zero, List.set_cons_succ]
      refine held_on 4 (some 71) rfl rfl (by kernel_rfl) (by kernel_rfl) (by kernel_rfl) (fun _ _ _ h => h) (by rfl) hHeld (v := ?v5) ?y5 ?r5
      case y5 => intro w hSw; (try dsimp only at hSw); go_simp; (try with_reducible rfl)
      try simp only [Act.put, List.setIfInBounds_toArray, List.set_cons_zero, List.set_cons_succ]
      refine held_on 5 (some 72) rfl rfl (by kernel_rfl) (by kernel_rfl) (by kernel_rfl) (fun _ _ _ h => h) (by rfl) hHeld (v := ?v6) ?y6 ?r6
      case y6 => intro w hSw; (try dsimp only at hSw); go_simp; (try with_reducible rfl)
      try simp only [Act.put, List.setIfInBounds_toArray, List.set_cons_zero, List.set_cons_succ]
      refine held_on 6 (some 73) rfl rfl (by kernel_rfl) (by kernel_rfl) (by kernel_rfl) (fun _ _ _ h => h) (by rfl) hHeld (v := ?v7) ?y7 ?r7
      case y7 => intro w hSw; (try dsimp only at hSw); go_simp; (try with_reducible rfl)
      try simp only [Act.put, List.setIfInBounds_toArray, List.set_cons_zero, List.set_cons_succ]
      refine held_on 7 (some 74) rfl rfl (by kernel_rfl) (by kernel_rfl) (by kernel_rfl) (fun _ _ _ h => h) (by rfl) hHeld (v := ?v8) ?y8 ?r8
      case y8 => intro w hSw; (try dsimp only at hSw); go_simp; (try with_reducible rfl)
      try simp only [Act.put, List.setIfInBounds_toArray, List.set_cons_zero, List.set_cons_succ]
      refine held_on 8 (some 75) rfl rfl (by kernel_rfl) (by kernel_rfl) (by kernel_rfl) (fun _ _ _ h => h) (by rfl) hHeld (v := ?v9) ?y9 ?r9
      case y9 => intro w hSw; (try dsimp only at hSw); go_simp; (try with_reducible rfl)
      try simp only [Act.put, List.setIfInBounds_toArray, List.set_cons_zero, List.set_cons_succ]
      refine held_on 9 (some 76) rfl rfl (by kernel_rfl) (by kernel_rfl) (by kernel_rfl) (fun _ _ _ h => h) (by rfl) hHeld (v := ?v10) ?y10 ?r10
      case y10 => intro w hSw; (try dsimp only at hSw); go_simp; (try with_reducible rfl)
      try simp only [Act.put, List.setIfInBounds_toArray, List.set_cons_zero, List.set_cons_succ]
      refine held_on 10 (some 77) rfl rfl (by kernel_rfl) (by kernel_rfl) (by kernel_rfl) (fun _ _ _ h => h) (by rfl) hHeld (v := ?v11) ?y11 ?r11
      case y11 => intro w hSw; (try dsimp only at hSw); go_simp; (try with_reducible rfl)
      try simp only [Act.put, List.setIfInBounds_toArray, List.set_cons_zero, List.set_cons_succ]
      refine held_on 11 (some 78) rfl rfl (by kernel_rfl) (by kernel_rfl) (by kernel_rfl) (fun _ _ _ h => h) (by rfl) hHeld (v := ?v12) ?y12 ?r12
      case y12 => intro w hSw; (try dsimp only at hSw); go_simp; (try with_reducible rfl)
      try simp only [Act.put, List.setIfInBounds_toArray, List.set_cons_zero, List.set_cons_succ]
      refine held_on 12 (some 79) rfl rfl (by kernel_rfl) (by kernel_rfl) (by kernel_rfl) (fun _ _ _ h => h) (by rfl) hHeld (v := ?v13) ?y13 ?r13
      case y13 => intro w hSw; (try dsimp only at hSw); go_simp; (try with_reducible rfl)
      try simp only [Act.put, List.setIfInBounds_toArray, List.set_cons_zero, List.set_cons_succ]
      refine wpAnyH_ready (rs := [13]) (by kernel_rfl) (by simp) ?_
      refine AllReadyH.cons rfl (fun K hK => ?_) AllReadyH.nil
      go_simp
      go_at_call 93; refine (specStepTime_any r[qn].2[j] l[k].2.1 _ hsz9).mono ?_; rintro e w6 ⟨rfl, hb3⟩; go_simp
      refine hK.out _ _ ?_ (fun hHeld => ?_)
      · obtain ⟨y_rs, y_s1, y_s2, y_s3, y_q, y_d, y_b, y_x, y_y, y_R⟩ := hHeld; exact ⟨(hb3.cell y_x).trans y_rs, (hb3.cell y_y).trans y_s1, (hb3.cell y_y).trans y_s2, (hb3.cell y_y).trans y_s3, (hb3.cell y_b).trans y_q, (hb3.cell y_b).trans y_d, Nat.lt_of_lt_of_le y_b hb3.size, Nat.lt_of_lt_of_le y_x hb3.size, Nat.lt_of_lt_of_le y_y hb3.size, below_on y_R hb3⟩
      clear hK K
      try simp only [Act.put, List.setIfInBounds_toArray, List.set_cons_zero, List.set_cons_succ]
      refine held_on 14 (some 66) rfl rfl (by kernel_rfl) (by kernel_rfl) (by kernel_rfl) (fun _ _ _ h => h) (by rfl) hHeld (v := ?v14) ?y14 ?r14
      case y14 => intro w hSw; (try dsimp only at hSw); go_simp; (try with_reducible rfl)
      try simp only [Act.put, List.setIfInBounds_toArray, List.set_cons_zero, List.set_cons_succ]
      refine held_on 15 (some 81) rfl rfl (by kernel_rfl) (by kernel_rfl) (by kernel_rfl) (fun _ _ _ h => h) (by rfl) hHeld (v := ?v15) ?y15 ?r15
      case y15 => intro w hSw; (try dsimp only at hSw); go_simp; (try with_reducible rfl)
      try simp only [Act.put, List.setIfInBounds_toArray, List.set_cons_zero, List.set_cons_succ]
      refine held_on 16 (some 82) rfl rfl (by kernel_rfl) (by kernel_rfl) (by kernel_rfl) (fun _ _ _ h => h) (by rfl) hHeld (v := ?v16) ?y16 ?r16
      case y16 => intro w hSw; (try dsimp only at hSw); go_simp; (try with_reducible rfl)
      try simp only [Act.put, List.setIfInBounds_toArray, List.set_cons_zero, List.set_cons_succ]
      refine held_on 17 (some 10) rfl rfl (by kernel_rfl) (by kernel_rfl) (by kernel_rfl) (fun _ _ _ h => h) (by rfl) hHeld (v := ?v17) ?y17 ?r17
      case y17 => intro w hSw; (try dsimp only at hSw); go_simp; (try with_reducible rfl)
      try simp only [Act.put, List.setIfInBounds_toArray, List.set_cons_zero, List.set_cons_succ]
      refine held_on 18 (some 11) rfl rfl (by kernel_rfl) (by kernel_rfl) (by kernel_rfl) (fun _ _ _ h => h) (by rfl) hHeld (v := ?v18) ?y18 ?r18
      case y18 => intro w hSw; (try dsimp only at hSw); go_simp; (try with_reducible rfl)
      try simp only [Act.put, List.setIfInBounds_toArray, List.set_cons_zero, List.set_cons_succ]
      refine wpAnyH_done (by kernel_rfl) ?_ _
      obtain ⟨y_rs, y_s1, y_s2, y_s3, y_q, y_d, y_b, y_x, y_y, y_R⟩ := hHeld
      replace ho := ho.keep y_R
      replace hb := below_on hb y_R
      replace hb2 := below_on hb2 y_R
      clear r1 s1 s2 s3 hc0 hc1 hc2 hc3 hc4 hbl hbr hbs hst y_R
      have hz6 := hb.size
      have htb := stepTime_bd r[qn].2[j] l[k].2.1
      have HSTV : Hid (loadsOne l[k] sj r[qn].2[j] = addL sj r[qn].2[j].1 l[k].2.2.1 (stepTime r[qn].2[j] l[k].2.1).1) := rfl
      generalize stepTime r[qn].2[j] l[k].2.1 = tv at *
      go_wp2_with fail
      refine wp_region_held_drew (S := (fun w' => w'.cell? ⟨br, or_ + qn * 2 + 1, none⟩ = some (.slice (some ⟨bs, os, none⟩) r[qn].2.length cs2) ∧ w'.cell? ⟨bs, os + j * 3, none⟩ = some (.string r[qn].2[j].1) ∧ w'.cell? ⟨bs, os + j * 3 + 1, none⟩ = some (.int .i64 r[qn].2[j].2.1) ∧ w'.cell? ⟨bs, os + j * 3 + 2, none⟩ = some (.int .i64 r[qn].2[j].2.2) ∧ w'.cell? ⟨b, o + k * 5 + 1, none⟩ = some (.int .i64 l[k].2.1) ∧ w'.cell? ⟨b, o + k * 5 + 2, none⟩ = some (.int .i64 l[k].2.2.1) ∧ b < w'.heap.size ∧ br < w'.heap.size ∧ bs < w'.heap.size ∧ Below w6.heap.size w6 w')) (by kernel_rfl) ⟨y_rs, y_s1, y_s2, y_s3, y_q, y_d, y_b, y_x, y_y, (Below.refl _ _).drew⟩ (fun hHeld => ?_)
      refine held_on 0 (some 83) rfl rfl (by kernel_rfl) (by kernel_rfl) (by kernel_rfl) (fun _ _ _ h => h) (by rfl) hHeld (v := ?v19) ?y19 ?r19
      case y19 => intro w hSw; (try dsimp only at hSw); go_simp; (try with_reducible rfl)
      try simp only [Act.put, List.setIfInBounds_toArray, List.set_cons_zero, List.set_cons_succ]
      refine held_on 1 (some 84) rfl rfl (by kernel_rfl) (by kernel_rfl) (by kernel_rfl) (fun _ _ _ h => h) (by rfl) hHeld (v := ?v20) ?y20 ?r20
      case y20 => intro w hSw; (try dsimp only at hSw); go_simp; (try with_reducible rfl)
      try simp only [Act.put, List.setIfInBounds_toArray, List.set_cons_zero, List.set_cons_succ]
      refine held_on 2 (some 85) rfl rfl (by kernel_rfl) (by kernel_rfl) (by kernel_rfl) (fun _ _ _ h => h) (by rfl) hHeld (v := ?v21) ?y21 ?r21
      case y21 => intro w hSw; (try dsimp only at hSw); go_simp; (try with_reducible rfl)
      try simp only [Act.put, List.setIfInBounds_toArray, List.set_cons_zero, List.set_cons_succ]
      refine held_on 3 (some 86) rfl rfl (by kernel_rfl) (by kernel_rfl) (by kernel_rfl) (fun _ _ _ h => h) (by rfl) hHeld (v := ?v22) ?y22 ?r22
      case y22 => intro w hSw; (try dsimp only at hSw); go_simp; (try with_reducible rfl)
      try simp only [Act.put, List.setIfInBounds_toArray, List.set_cons_zero, List.set_cons_succ]
      refine held_on 4 (some 87) rfl rfl (by kernel_rfl) (by kernel_rfl) (by kernel_rfl) (fun _ _ _ h => h) (by rfl) hHeld (v := ?v23) ?y23 ?r23
      case y23 => intro w hSw; (try dsimp only at hSw); go_simp; (try with_reducible rfl)
      try simp only [Act.put, List.setIfInBounds_toArray, List.set_cons_zero, List.set_cons_succ]
      refine held_on 5 (some 88) rfl rfl (by kernel_rfl) (by kernel_rfl) (by kernel_rfl) (fun _ _ _ h => h) (by rfl) hHeld (v := ?v24) ?y24 ?r24
      case y24 => intro w hSw; (try dsimp only at hSw); go_simp; (try with_reducible rfl)
      try simp only [Act.put, List.setIfInBounds_toArray, List.set_cons_zero, List.set_cons_succ]
      refine held_on 6 (some 89) rfl rfl (by kernel_rfl) (by kernel_rfl) (by kernel_rfl) (fun _ _ _ h => h) (by rfl) hHeld (v := ?v25) ?y25 ?r25
      case y25 => intro w hSw; (try dsimp only at hSw); go_simp; (try with_reducible rfl)
      try simp only [Act.put, List.setIfInBounds_toArray, List.set_cons_zero, List.set_cons_succ]
      refine held_on 7 (some 90) rfl rfl (by kernel_rfl) (by kernel_rfl) (by kernel_rfl) (fun _ _ _ h => h) (by rfl) hHeld (v := ?v26) ?y26 ?r26
      case y26 => intro w hSw; (try dsimp only at hSw); go_simp; (try with_reducible rfl)
      try simp only [Act.put, List.setIfInBounds_toArray, List.set_cons_zero, List.set_cons_succ]
      refine held_on 8 (some 91) rfl rfl (by kernel_rfl) (by kernel_rfl) (by kernel_rfl) (fun _ _ _ h => h) (by rfl) hHeld (v := ?v27) ?y27 ?r27
      case y27 => intro w hSw; (try dsimp only at hSw); go_simp; (try with_reducible rfl)
      try simp only [Act.put, List.setIfInBounds_toArray, List.set_cons_zero, List.set_cons_succ]
      refine held_on 9 (some 92) rfl rfl (by kernel_rfl) (by kernel_rfl) (by kernel_rfl) (fun _ _ _ h => h) (by rfl) hHeld (v := ?v28) ?y28 ?r28
      case y28 => intro w hSw; (try dsimp only at hSw); go_simp; (try with_reducible rfl)
      try simp only [Act.put, List.setIfInBounds_toArray, List.set_cons_zero, List.set_cons_succ]
      refine held_on 10 (some 93) rfl rfl (by kernel_rfl) (by kernel_rfl) (by kernel_rfl) (fun _ _ _ h => h) (by rfl) hHeld (v := ?v29) ?y29 ?r29
      case y29 => intro w hSw; (try dsimp only at hSw); go_simp; (try with_reducible rfl)
      try simp only [Act.put, List.setIfInBounds_toArray, List.set_cons_zero, List.set_cons_succ]
      refine held_on 11 (some 94) rfl rfl (by kernel_rfl) (by kernel_rfl) (by kernel_rfl) (fun _ _ _ h => h) (by rfl) hHeld (v := ?v30) ?y30 ?r30
      case y30 => intro w hSw; (try dsimp only at hSw); go_simp; (try with_reducible rfl)
      try simp only [Act.put, List.setIfInBounds_toArray, List.set_cons_zero, List.set_cons_succ]
      refine held_on 12 (some 95) rfl rfl (by kernel_rfl) (by kernel_rfl) (by kernel_rfl) (fun _ _ _ h => h) (by rfl) hHeld (v := ?v31) ?y31 ?r31
      case y31 => intro w hSw; (try dsimp only at hSw); go_simp; (try with_reducible rfl)
      try simp only [Act.put, List.setIfInBounds_toArray, List.set_cons_zero, List.set_cons_succ]
      refine held_on 13 (some 96) rfl rfl (by kernel_rfl) (by kernel_rfl) (by kernel_rfl) (fun _ _ _ h => h) (by rfl) hHeld (v := ?v32) ?y32 ?r32
      case y32 => intro w hSw; (try dsimp only at hSw); go_simp; (try with_reducible rfl)
      try simp only [Act.put, List.setIfInBounds_toArray, List.set_cons_zero, List.set_cons_succ]
      refine held_on 14 (some 97) rfl rfl (by kernel_rfl) (by kernel_rfl) (by kernel_rfl) (fun _ _ _ h => h) (by rfl) hHeld (v := ?v33) ?y33 ?r33
      case y33 => intro w hSw; (try dsimp only at hSw); go_simp; (try with_reducible rfl)
      try simp only [Act.put, List.setIfInBounds_toArray, List.set_cons_zero, List.set_cons_succ]
      refine held_on 15 (some 98) rfl rfl (by kernel_rfl) (by kernel_rfl) (by kernel_rfl) (fun _ _ _ h => h) (by rfl) hHeld (v := ?v34) ?y34 ?r34
      case y34 => intro w hSw; (try dsimp only at hSw); go_simp; (try with_reducible rfl)
      try simp only [Act.put, List.setIfInBounds_toArray, List.set_cons_zero, List.set_cons_succ]
      refine wpAnyH_ready (rs := [16]) (by kernel_rfl) (by simp) ?_
      refine AllReadyH.cons rfl (fun K hK => ?_) AllReadyH.nil
      go_simp
      go_at_call 94; refine (l21Add_any _ _ _ sj _ _ _ _ ((ho.keep (by obtain ⟨y_rs, y_s1, y_s2, y_s3, y_q, y_d, y_b, y_x, y_y, y_R⟩ := hHeld; exact y_R)).rows (by omega)) hcap.1 (by have := hcap.2; unfold maxLen at this; omega) (by omega) (fun f hf => by have := HBJ.out f hf; omega) (by omega)).mono ?_; rintro e w7 ⟨A7, q7, rfl, ho7, hb3⟩; go_simp
      refine hK.out _ _ ?_ (fun hHeld => ?_)
      · obtain ⟨y_rs, y_s1, y_s2, y_s3, y_q, y_d, y_b, y_x, y_y, y_R⟩ := hHeld; exact ⟨(hb3.cell y_x).trans y_rs, (hb3.cell y_y).trans y_s1, (hb3.cell y_y).trans y_s2, (hb3.cell y_y).trans y_s3, (hb3.cell y_b).trans y_q, (hb3.cell y_b).trans y_d, Nat.lt_of_lt_of_le y_b hb3.size, Nat.lt_of_lt_of_le y_x hb3.size, Nat.lt_of_lt_of_le y_y hb3.size, below_on y_R hb3⟩
      clear hK K
      try simp only [Act.put, List.setIfInBounds_toArray, List.set_cons_zero, List.set_cons_succ]
      refine held_on 17 (some 6) rfl rfl (by kernel_rfl) (by kernel_rfl) (by kernel_rfl) (fun _ _ _ h => h) (by rfl) hHeld (v := ?v35) ?y35 ?r35
      case y35 => intro w hSw; (try dsimp only at hSw); go_simp; (try with_reducible rfl)
      try simp only [Act.put, List.setIfInBounds_toArray, List.set_cons_zero, List.set_cons_succ]
      refine wpAnyH_done (by kernel_rfl) ?_ _
      obtain ⟨z_rs, z_s1, z_s2, z_s3, z_q, z_d, z_b, z_x, z_y, y_R⟩ := hHeld
      replace hb := below_on hb y_R
      replace hb2 := below_on hb2 y_R
      replace ho7 := ho7.lower (lo' := w.heap.size) hz6
      go_wp2_with fail
      go_roundw
      case rel => exact ⟨j + 1, by omega, by go_num, by rw [HJ.out, HSTV.out]; exact ho7.val, hb, hb2⟩
      case measure => simp [intOf]; omega
end Go.Proofs.Ytlnkofnfgemfdaa
