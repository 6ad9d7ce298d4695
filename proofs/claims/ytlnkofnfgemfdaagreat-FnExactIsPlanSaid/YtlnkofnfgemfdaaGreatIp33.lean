/- Part 33 of the texts of this claim: The walk of IsPlan (the reference's). -/
import Derived.Test.YtlnkofnfgemfdaaGreatIp32
/- The walk of IsPlan (the reference's). -/
namespace Go.Proofs.YtlnkofnfgemfdaaGreat
open Go.RowKit
set_option maxRecDepth 100000 in
set_option maxHeartbeats 8000000 in
theorem specIsPlan_any (r : PtR) (p : Pt) (A B : Option Addr) (n c m d : Nat) (ds : List Dm) (l : List Pl) (w : World) (hp : PlantIn w r p) (hok : okPt p) (hds : DemandsIn w A n ds) (hokd : ∀ x ∈ ds, okDm x) (_hnc : n ≤ c) (hl : PlannedsIn w B m l) (hokl : ∀ x ∈ l, okPl x) :
    Calls Tryz.prog 22 #[.agg #[.slice r.i.a r.i.n r.i.c, .slice r.l.a r.l.n r.l.c, .slice r.w.a r.w.n r.w.c, .slice r.e.a r.e.n r.e.c, .slice r.p.a r.p.n r.p.c, .slice r.s.a r.s.n r.s.c, .slice r.q.a r.q.n r.q.c], .slice A n c, .slice B m d] w fun e w' => e = .returned (.bool (isPlan p ds l)) ∧ Below w.heap.size w w' := by
  have hnl := hl.1
  subst hnl
  obtain ⟨⟨a0, n0, c0⟩, ⟨a1, n1, c1⟩, ⟨a2, n2, c2⟩, ⟨a3, n3, c3⟩, ⟨a4, n4, c4⟩, ⟨a5, n5, c5⟩, ⟨a6, n6, c6⟩⟩ := r
  have HP := Lib.hid hp
  have HQ0 := Lib.hid hp.it
  dsimp only at HQ0 ⊢
  clear hp
  have hn0 : n0 = p.it.length := HQ0.out.1
  subst hn0
  have HO := Lib.hid hok
  have HOD := Lib.hid hokd
  have HOL := Lib.hid hokl
  clear hok hokd hokl
  have hb := below_alloc w (.cells #[.slice a0 p.it.length c0, .slice a1 n1 c1, .slice a2 n2 c2, .slice a3 n3 c3, .slice a4 n4 c4, .slice a5 n5 c5, .slice a6 n6 c6] 48)
  have B0 : BoxOf (w.alloc (.cells #[.slice a0 p.it.length c0, .slice a1 n1 c1, .slice a2 n2 c2, .slice a3 n3 c3, .slice a4 n4 c4, .slice a5 n5 c5, .slice a6 n6 c6] 48)) w.heap.size [.slice a0 p.it.length c0, .slice a1 n1 c1, .slice a2 n2 c2, .slice a3 n3 c3, .slice a4 n4 c4, .slice a5 n5 c5, .slice a6 n6 c6] := boxOf_alloc w #[.slice a0 p.it.length c0, .slice a1 n1 c1, .slice a2 n2 c2, .slice a3 n3 c3, .slice a4 n4 c4, .slice a5 n5 c5, .slice a6 n6 c6] 48
  go_enter Tryz.func22, Tryz.ntmps22
  go_wp2_with fail
  generalize (w.alloc (.cells #[.slice a0 p.it.length c0, .slice a1 n1 c1, .slice a2 n2 c2, .slice a3 n3 c3, .slice a4 n4 c4, .slice a5 n5 c5, .slice a6 n6 c6] 48)) = V at *
  refine (specArePlanned_any ⟨⟨a0, p.it.length, c0⟩, ⟨a1, n1, c1⟩, ⟨a2, n2, c2⟩, ⟨a3, n3, c3⟩, ⟨a4, n4, c4⟩, ⟨a5, n5, c5⟩, ⟨a6, n6, c6⟩⟩ p _ _ _ l _ (HP.out.keep hb) HO.out (hl.keep hb) HOL.out).mono ?_
  rintro e w1 ⟨rfl, hs⟩
  replace hb := below_on hb hs
  replace B0 := B0.keep hs
  clear hs
  cases t1 : arePlanned p l
  · go_wp2_with fail
    go_ret
    exact ⟨ret_bool (isPlan_no (by rw [t1]; rfl)).symm, hb⟩
  go_wp2_with fail
  refine (specAreDemands_any _ _ _ ds _ (hds.keep hb) HOD.out).mono ?_
  rintro e w2 ⟨rfl, hs⟩
  replace hb := below_on hb hs
  replace B0 := B0.keep hs
  clear hs
  cases t2 : areDemands ds
  · go_wp2_with fail
    go_ret
    exact ⟨ret_bool (isPlan_no (by rw [t1, t2]; rfl)).symm, hb⟩
  have hip := (arePlanned_parts t1).1
  have HPP := Lib.hid (arePlanned_parts t1).2.2
  have h500 := (arePlanned_parts t1).2.1
  have hcat := (isBills_parts (isPlant_parts hip).1).1
  have h12 : p.it.length ≤ 12 := isCat_12 hcat
  have HFS := Lib.hid (fun k hk => find_self hcat k hk)
  have HIT := Lib.hid (fun q (hq : q < p.it.length) => isItem_lots _ (isPlant_item hip hq))
  have HIP := Lib.hid hip
  clear hcat hip
  go_wp2_with fail
  go_loopw [7] (fun i wr => ∃ k : Nat, k ≤ l.length ∧ i = .int .i64 k ∧ Hid ((l.take k).all (okRel p) = true) ∧ BoxOf wr w.heap.size [.slice a0 p.it.length c0, .slice a1 n1 c1, .slice a2 n2 c2, .slice a3 n3 c3, .slice a4 n4 c4, .slice a5 n5 c5, .slice a6 n6 c6] ∧ Below w.heap.size w wr) (fun i _ => l.length - (intOf i).toNat)
  case atStart => exact ⟨0, by omega, rfl, rfl, B0, hb⟩
  case round =>
    clear B0 hb
    obtain ⟨k, hk, rfl, HI, B0, hb⟩ := hrel
    by_cases hlt : k < l.length
    case pos =>
      have HAT := Lib.hid (all_take l (okRel p) k hlt)
      obtain ⟨z1, z2, ⟨z3, z4⟩, ⟨z5, z6⟩, z7, z8⟩ := HPP.out k hlt
      obtain ⟨b, o, rfl, hbl, hc0, hc1, hc2, hc3, hc4⟩ := planned_at (hl.keep hb) hlt
      obtain ⟨f1, f2⟩ := findIt_bd p.it l[k].1
      obtain ⟨qn, hqn⟩ : ∃ qn : Nat, findIt p.it l[k].1 = (qn : Int) := ⟨(findIt p.it l[k].1).toNat, by omega⟩
      have q1 : qn < p.it.length := by omega
      have q2 : (qn : Int) < (p.it.length : Int) := by omega
      have q3 : (0 : Int) ≤ (qn : Int) := by omega
      have HQN := Lib.hid hqn
      have HPX := Lib.hid (planX_at hqn q1)
      obtain ⟨_, _, _, hld, _⟩ := HIT.out qn q1
      obtain ⟨kn, hkn⟩ : ∃ kn : Nat, p.it[qn].2.2.2.1 = (kn : Int) := ⟨(p.it[qn].2.2.2.1).toNat, by omega⟩
      have hk30 : kn ≤ 30 := by omega
      have HRL : Hid (relOf p l[k] = addWd p.wk p.ex l[k].2.2.2.1 (-(kn : Int))) := by show _ = _; unfold relOf; rw [HPX.out, hkn]
      have hwn : IntKind.i64.wrap (-(kn : Int)) = -(kn : Int) := IntWalk.i64_in _ (by omega)
      clear hqn f1 f2 z1 z2
      obtain ⟨bi, oi, hae, hbi, t0, t1', t2', t3, _⟩ := item_at (HQ0.out.keep hb) q1
      rw [hkn] at t3
      have HIN := Lib.hid (HQ0.out.keep hb)
      obtain ⟨b0, b1, b2, b3, b4, b5, b6, bl⟩ := B0.seven
      rw [hae] at b0
      have HAE := Lib.hid hae
      clear hae
      go_wp2_with fail
      refine wp_region_held_drew (S := (fun w' => w'.cell? ⟨w.heap.size, 0, none⟩ = some (.slice (some ⟨bi, oi, none⟩) p.it.length c0) ∧ w'.cell? ⟨w.heap.size, 2, none⟩ = some (.slice a2 n2 c2) ∧ w'.cell? ⟨w.heap.size, 3, none⟩ = some (.slice a3 n3 c3) ∧ w'.cell? ⟨b, o + k * 5, none⟩ = some (.string l[k].1) ∧ w'.cell? ⟨b, o + k * 5 + 3, none⟩ = some (.int .i64 l[k].2.2.2.1) ∧ w'.cell? ⟨bi, oi + qn * 8 + 3, none⟩ = some (.int .i64 (kn : Int)) ∧ w.heap.size < w'.heap.size ∧ b < w'.heap.size ∧ bi < w'.heap.size ∧ Below wr.heap.size wr w')) (by kernel_rfl) ⟨b0, b2, b3, hc0, hc3, t3, bl, hbl, hbi, (Below.refl _ _).drew⟩ (fun hHeld => ?_)
      refine held_on 0 (some 32) rfl rfl (by kernel_rfl) (by kernel_rfl) (by kernel_rfl) (fun _ _ _ h => h) (by rfl) hHeld (v := ?v1) ?y1 ?r1
      case y1 => intro w hSw; (try dsimp only at hSw); go_simp; (try with_reducible rfl)
      try simp only [Act.put, List.setIfInBounds_toArray, List.set_cons_zero, List.set_cons_succ]
      refine held_on 1 (some 33) rfl rfl (by kernel_rfl) (by kernel_rfl) (by kernel_rfl) (fun _ _ _ h => h) (by rfl) hHeld (v := ?v2) ?y2 ?r2
      case y2 => intro w hSw; (try dsimp only at hSw); go_simp; (try with_reducible rfl)
      try simp only [Act.put, List.setIfInBounds_toArray, List.set_cons_zero, List.set_cons_succ]
      refine held_on 2 (some 34) rfl rfl (by kernel_rfl) (by kernel_rfl) (by kernel_rfl) (fun _ _ _ h => h) (by rfl) hHeld (v := ?v3) ?y3 ?r3
      case y3 => intro w hSw; (try dsimp only at hSw); go_simp; (try with_reducible rfl)
      try simp only [Act.put, List.setIfInBounds_toArray, List.set_cons_zero, List.set_cons_succ]
      refine held_on 3 (some 35) rfl rfl (by kernel_rfl) (by kernel_rfl) (by kernel_rfl) (fun _ _ _ h => h) (by rfl) hHeld (v := ?v4) ?y4 ?r4
      case y4 => intro w hSw; (try dsimp only at hSw); go_simp; (try with_reducible rfl)
      try simp only [Act.put, List.setIfInBounds_toArray, List.set_cons_zero, List.set_cons_succ]
      refine held_on 4 (some 36) rfl rfl (by kernel_rfl) (by kernel_rfl) (by kernel_rfl) (fun _ _ _ h => h) (by rfl) hHeld (v := ?v5) ?y5 ?r5
      case y5 => intro w hSw; (try dsimp only at hSw); go_simp; (try with_reducible rfl)
      try simp only [Act.put, List.setIfInBounds_toArray, List.set_cons_zero, List.set_cons_succ]
      refine held_on 5 (some 37) rfl rfl (by kernel_rfl) (by kernel_rfl) (by kernel_rfl) (fun _ _ _ h => h) (by rfl) hHeld (v := ?v6) ?y6 ?r6
      case y6 => intro w hSw; (try dsimp only at hSw); go_simp; (try with_reducible rfl)
      try simp only [Act.put, List.setIfInBounds_toArray, List.set_cons_zero, List.set_cons_succ]
      refine held_on 6 (some 38) rfl rfl (by kernel_rfl) (by kernel_rfl) (by kernel_rfl) (fun _ _ _ h => h) (by rfl) hHeld (v := ?v7) ?y7 ?r7
      case y7 => intro w hSw; (try dsimp only at hSw); go_simp; (try with_reducible rfl)
      try simp only [Act.put, List.setIfInBounds_toArray, List.set_cons_zero, List.set_cons_succ]
      refine held_on 7 (some 39) rfl rfl (by kernel_rfl) (by kernel_rfl) (by kernel_rfl) (fun _ _ _ h => h) (by rfl) hHeld (v := ?v8) ?y8 ?r8
      case y8 => intro w hSw; (try dsimp only at hSw); go_simp; (try with_reducible rfl)
      try simp only [Act.put, List.setIfInBounds_toArray, List.set_cons_zero, List.set_cons_succ]
      refine held_on 8 (some 40) rfl rfl (by kernel_rfl) (by kernel_rfl) (by kernel_rfl) (fun _ _ _ h => h) (by rfl) hHeld (v := ?v9) ?y9 ?r9
      case y9 => intro w hSw; (try dsimp only at hSw); go_simp; (try with_reducible rfl)
      try simp only [Act.put, List.setIfInBounds_toArray, List.set_cons_zero, List.set_cons_succ]
      refine held_on 9 (some 41) rfl rfl (by kernel_rfl) (by kernel_rfl) (by kernel_rfl) (fun _ _ _ h => h) (by rfl) hHeld (v := ?v10) ?y10 ?r10
      case y10 => intro w hSw; (try dsimp only at hSw); go_simp; (try with_reducible rfl)
      try simp only [Act.put, List.setIfInBounds_toArray, List.set_cons_zero, List.set_cons_succ]
      refine held_on 10 (some 42) rfl rfl (by kernel_rfl) (by kernel_rfl) (by kernel_rfl) (fun _ _ _ h => h) (by rfl) hHeld (v := ?v11) ?y11 ?r11
      case y11 => intro w hSw; (try dsimp only at hSw); go_simp; (try with_reducible rfl)
      try simp only [Act.put, List.setIfInBounds_toArray, List.set_cons_zero, List.set_cons_succ]
      refine held_on 11 (some 43) rfl rfl (by kernel_rfl) (by kernel_rfl) (by kernel_rfl) (fun _ _ _ h => h) (by rfl) hHeld (v := ?v12) ?y12 ?r12
      case y12 => intro w hSw; (try dsimp only at hSw); go_simp; (try with_reducible rfl)
      try simp only [Act.put, List.setIfInBounds_toArray, List.set_cons_zero, List.set_cons_succ]
      refine held_on 12 (some 44) rfl rfl (by kernel_rfl) (by kernel_rfl) (by kernel_rfl) (fun _ _ _ h => h) (by rfl) hHeld (v := ?v13) ?y13 ?r13
      case y13 => intro w hSw; (try dsimp only at hSw); go_simp; (try with_reducible rfl)
      try simp only [Act.put, List.setIfInBounds_toArray, List.set_cons_zero, List.set_cons_succ]
      refine held_on 13 (some 45) rfl rfl (by kernel_rfl) (by kernel_rfl) (by kernel_rfl) (fun _ _ _ h => h) (by rfl) hHeld (v := ?v14) ?y14 ?r14
      case y14 => intro w hSw; (try dsimp only at hSw); go_simp; (try with_reducible rfl)
      try simp only [Act.put, List.setIfInBounds_toArray, List.set_cons_zero, List.set_cons_succ]
      refine held_on 14 (some 46) rfl rfl (by kernel_rfl) (by kernel_rfl) (by kernel_rfl) (fun _ _ _ h => h) (by rfl) hHeld (v := ?v15) ?y15 ?r15
      case y15 => intro w hSw; (try dsimp only at hSw); go_simp; (try with_reducible rfl)
      try simp only [Act.put, List.setIfInBounds_toArray, List.set_cons_zero, List.set_cons_succ]
      refine held_on 15 (some 47) rfl rfl (by kernel_rfl) (by kernel_rfl) (by kernel_rfl) (fun _ _ _ h => h) (by rfl) hHeld (v := ?v16) ?y16 ?r16
      case y16 => intro w hSw; (try dsimp only at hSw); go_simp; (try with_reducible rfl)
      try simp only [Act.put, List.setIfInBounds_toArray, List.set_cons_zero, List.set_cons_succ]
      refine wpAnyH_ready (rs := [16]) (by kernel_rfl) (by simp) ?_
      refine AllReadyH.cons rfl (fun K hK => ?_) AllReadyH.nil
      go_simp
      go_at_call 37; refine (specFindItem_any _ _ _ p.it _ _ (HAE.out ▸ HIN.out.keep (by obtain ⟨y_c0, y_c2, y_c3, y_p0, y_p3, y_t3, y_n, y_b, y_i, y_R⟩ := hHeld; exact y_R))).mono ?_; rintro e w6 ⟨rfl, rfl⟩; rw [HQN.out]; go_simp
      refine hK.out _ _ ?_ (fun hHeld => ?_)
      · exact hHeld
      clear hK K
      try simp only [Act.put, List.setIfInBounds_toArray, List.set_cons_zero, List.set_cons_succ]
      refine held_on 17 (some 49) rfl rfl (by kernel_rfl) (by kernel_rfl) (by kernel_rfl) (fun _ _ _ h => h) (by rfl) hHeld (v := ?v17) ?y17 ?r17
      case y17 => intro w hSw; (try dsimp only at hSw); go_simp; (try with_reducible rfl)
      try simp only [Act.put, List.setIfInBounds_toArray, List.set_cons_zero, List.set_cons_succ]
      refine held_on 18 (some 50) rfl rfl (by kernel_rfl) (by kernel_rfl) (by kernel_rfl) (fun _ _ _ h => h) (by rfl) hHeld (v := ?v18) ?y18 ?r18
      case y18 => intro w hSw; (try dsimp only at hSw); go_simp; (try with_reducible rfl)
      try simp only [Act.put, List.setIfInBounds_toArray, List.set_cons_zero, List.set_cons_succ]
      refine held_on 19 (some 51) rfl rfl (by kernel_rfl) (by kernel_rfl) (by kernel_rfl) (fun _ _ _ h => h) (by rfl) hHeld (v := ?v19) ?y19 ?r19
      case y19 => intro w hSw; (try dsimp only at hSw); go_simp; (try with_reducible rfl)
      try simp only [Act.put, List.setIfInBounds_toArray, List.set_cons_zero, List.set_cons_succ]
      refine held_on 20 (some 52) rfl rfl (by kernel_rfl) (by kernel_rfl) (by kernel_rfl) (fun _ _ _ h => h) (by rfl) hHeld (v := ?v20) ?y20 ?r20
      case y20 => intro w hSw; (try dsimp only at hSw); go_simp; (try with_reducible rfl)
      try simp only [Act.put, List.setIfInBounds_toArray, List.set_cons_zero, List.set_cons_succ]
      refine wpAnyH_ready (rs := [21]) (by kernel_rfl) (by simp) ?_
      refine AllReadyH.cons rfl (fun K hK => ?_) AllReadyH.nil
      go_simp
      go_at_call 45; refine (specAddWorkdays_any _ _ _ _ _ _ p.wk p.ex l[k].2.2.2.1 kn _ (HP.out.wk.keep (below_on hb (by obtain ⟨y_c0, y_c2, y_c3, y_p0, y_p3, y_t3, y_n, y_b, y_i, y_R⟩ := hHeld; exact y_R))) (HP.out.ex.keep (below_on hb (by obtain ⟨y_c0, y_c2, y_c3, y_p0, y_p3, y_t3, y_n, y_b, y_i, y_R⟩ := hHeld; exact y_R))) (by omega)).mono ?_; rintro e w8 ⟨rfl, hb3⟩; go_simp
      refine hK.out _ _ ?_ (fun hHeld => ?_)
      · obtain ⟨y_c0, y_c2, y_c3, y_p0, y_p3, y_t3, y_n, y_b, y_i, y_R⟩ := hHeld; exact ⟨(hb3.cell y_n).trans y_c0, (hb3.cell y_n).trans y_c2, (hb3.cell y_n).trans y_c3, (hb3.cell y_b).trans y_p0, (hb3.cell y_b).trans y_p3, (hb3.cell y_i).trans y_t3, Nat.lt_of_lt_of_le y_n hb3.size, Nat.lt_of_lt_of_le y_b hb3.size, Nat.lt_of_lt_of_le y_i hb3.size, below_on y_R hb3⟩
      clear hK K
      try simp only [Act.put, List.setIfInBounds_toArray, List.set_cons_zero, List.set_cons_succ]
      refine held_on 22 (some 31) rfl rfl (by kernel_rfl) (by kernel_rfl) (by kernel_rfl) (fun _ _ _ h => h) (by rfl) hHeld (v := ?v21) ?y21 ?r21
      case y21 => intro w hSw; (try dsimp only at hSw); go_simp; (try with_reducible rfl)
      try simp only [Act.put, List.setIfInBounds_toArray, List.set_cons_zero, List.set_cons_succ]
      refine held_on 23 (some 54) rfl rfl (by kernel_rfl) (by kernel_rfl) (by kernel_rfl) (fun _ _ _ h => h) (by rfl) hHeld (v := ?v22) ?y22 ?r22
      case y22 => intro w hSw; (try dsimp only at hSw); go_simp; (try with_reducible rfl)
      try simp only [Act.put, List.setIfInBounds_toArray, List.set_cons_zero, List.set_cons_succ]
      refine held_on 24 (some 55) rfl rfl (by kernel_rfl) (by kernel_rfl) (by kernel_rfl) (fun _ _ _ h => h) (by rfl) hHeld (v := ?v23) ?y23 ?r23
      case y23 => intro w hSw; (try dsimp only at hSw); go_simp; (try with_reducible rfl)
      try simp only [Act.put, List.setIfInBounds_toArray, List.set_cons_zero, List.set_cons_succ]
      refine held_on 25 (some 8) rfl rfl (by kernel_rfl) (by kernel_rfl) (by kernel_rfl) (fun _ _ _ h => h) (by rfl) hHeld (v := ?v24) ?y24 ?r24
      case y24 => intro w hSw; (try dsimp only at hSw); go_simp; (try with_reducible rfl)
      try simp only [Act.put, List.setIfInBounds_toArray, List.set_cons_zero, List.set_cons_succ]
      refine held_on 26 (some 9) rfl rfl (by kernel_rfl) (by kernel_rfl) (by kernel_rfl) (fun _ _ _ h => h) (by rfl) hHeld (v := ?v25) ?y25 ?r25
      case y25 => intro w hSw; (try dsimp only at hSw); go_simp; (try with_reducible rfl)
      try simp only [Act.put, List.setIfInBounds_toArray, List.set_cons_zero, List.set_cons_succ]
      refine wpAnyH_done (by kernel_rfl) ?_ _
      obtain ⟨y_c0, y_c2, y_c3, y_p0, y_p3, y_t3, y_n, y_b, y_i, y_R⟩ := hHeld
      replace B0 := B0.keep y_R
      replace hb := below_on hb y_R
      clear y_c0 y_c2 y_c3 y_p0 y_p3 y_t3 y_n y_b y_i y_R b0 b1 b2 b3 b4 b5 b6 bl hc0 hc1 hc2 hc3 hc4 hbl hbi t0 t1' t2' t3 HIN
      generalize hadd : addWd p.wk p.ex l[k].2.2.2.1 (-(kn : Int)) = ad at *
      obtain ⟨ad1, ad2⟩ := ad
      obtain ⟨_, _, e9, hbl, hc0, hc1, hc2, hc3, hc4⟩ := planned_at (hl.keep hb) hlt
      obtain ⟨rfl, rfl⟩ : b = _ ∧ o = _ := by simpa using e9
      clear e9
      have HOK : Hid (okRel p l[k] = ((l[k].2.2.1 == ad1) && (l[k].2.2.2.2 == !ad2))) := by show _ = _; unfold okRel; rw [HRL.out]
      generalize l[k].2.2.2.2 = lt at *
      generalize hrel9 : l[k].2.2.1 = rl at *
      clear hrel9 hadd HRL
      cases lt
      · cases ad2
        · skip
          have HF : Hid (isPlan p ds l = false) := isPlan_rel hlt (by rw [HOK.out]; simp)
          go_wp2_with fail
          go_ret
          exact ⟨ret_bool HF.out.symm, hb⟩
        · skip
          cases e2 : (rl == ad1)
          · have e3 : ¬ rl = ad1 := by simpa using e2
            have HF : Hid (isPlan p ds l = false) := isPlan_rel hlt (by rw [HOK.out, e2]; rfl)
            go_wp2_with fail
            go_ret
            exact ⟨ret_bool HF.out.symm, hb⟩
          · obtain rfl : rl = ad1 := by simpa using e2
            have HY : Hid ((l.take (k + 1)).all (okRel p) = true) := by show _ = _; rw [HAT.out, HI.out, HOK.out]; simp
            go_wp2_with fail
            go_roundw
            case rel => exact ⟨k + 1, by omega, by go_num, HY.out, B0, hb⟩
            case measure => simp [intOf]; omega
      · cases ad2
        · skip
          cases e2 : (rl == ad1)
          · have e3 : ¬ rl = ad1 := by simpa using e2
            have HF : Hid (isPlan p ds l = false) := isPlan_rel hlt (by rw [HOK.out, e2]; rfl)
            go_wp2_with fail
            go_ret
            exact ⟨ret_bool HF.out.symm, hb⟩
          · obtain rfl : rl = ad1 := by simpa using e2
            have HY : Hid ((l.take (k + 1)).all (okRel p) = true) := by show _ = _; rw [HAT.out, HI.out, HOK.out]; simp
            go_wp2_with fail
            go_roundw
            case rel => exact ⟨k + 1, by omega, by go_num, HY.out, B0, hb⟩
            case measure => simp [intOf]; omega
        · skip
          have HF : Hid (isPlan p ds l = false) := isPlan_rel hlt (by rw [HOK.out]; simp)
          go_wp2_with fail
          go_ret
          exact ⟨ret_bool HF.out.symm, hb⟩
    obtain rfl : k = l.length := by omega
    have HREL := HI
    clear HI hk hlt
    go_wp2_with fail
    go_loopw [10] (fun i wr => ∃ k : Nat, k ≤ p.it.length ∧ i = .int .i64 k ∧ Hid ((p.it.take k).all (fineItem p ds l) = true) ∧ BoxOf wr w.heap.size [.slice a0 p.it.length c0, .slice a1 n1 c1, .slice a2 n2 c2, .slice a3 n3 c3, .slice a4 n4 c4, .slice a5 n5 c5, .slice a6 n6 c6] ∧ Below w.heap.size w wr) (fun i _ => p.it.length - (intOf i).toNat)
    case atStart => exact ⟨0, by omega, rfl, rfl, B0, hb⟩
    case round =>
      clear B0 hb
      obtain ⟨k, hk, rfl, HI, B0, hb⟩ := hrel
      obtain ⟨b0, b1, b2, b3, b4, b5, b6, bl⟩ := B0.seven
      by_cases hlt : k < p.it.length
      case neg =>
        obtain rfl : k = p.it.length := by omega
        have HF : Hid (isPlan p ds l = true) := isPlan_yes t1 t2 HREL.out HI.out
        go_wp2_with fail
        go_ret
        exact ⟨ret_bool HF.out.symm, hb⟩
      have HAT := Lib.hid (all_take p.it (fineItem p ds l) k hlt)
      obtain ⟨bi, oi, hae, hbi, t0, t1', t2', t3, t4, t5, t6, t7⟩ := item_at (HQ0.out.keep hb) hlt
      have j2 : (k : Int) < (p.it.length : Int) := by omega
      subst hae
      cases k2 : (p.it[k].2.2.1 == 2)
      case true =>
        have HY : Hid ((p.it.take (k + 1)).all (fineItem p ds l) = true) := by show _ = _; rw [HAT.out, HI.out, fine_phan k2]; rfl
        go_wp2_with fail
        go_roundw
        case rel => exact ⟨k + 1, by omega, by go_num, HY.out, B0, hb⟩
        case measure => simp [intOf]; omega
      have hx9 := (HO.out.it _ (List.getElem_mem hlt)).1
      have hf0 : 0 ≤ findIt p.it p.it[k].1 := by rw [HFS.out k hlt]; omega
      obtain ⟨_, _, _, _, hsf, _⟩ := HIT.out k hlt
      go_wp2_with fail
      refine wp_region_held_drew (S := (fun w' => w'.cell? ⟨w.heap.size, 0, none⟩ = some (.slice (some ⟨bi, oi, none⟩) p.it.length c0) ∧ w'.cell? ⟨w.heap.size, 1, none⟩ = some (.slice a1 n1 c1) ∧ w'.cell? ⟨w.heap.size, 2, none⟩ = some (.slice a2 n2 c2) ∧ w'.cell? ⟨w.heap.size, 3, none⟩ = some (.slice a3 n3 c3) ∧ w'.cell? ⟨w.heap.size, 4, none⟩ = some (.slice a4 n4 c4) ∧ w'.cell? ⟨w.heap.size, 5, none⟩ = some (.slice a5 n5 c5) ∧ w'.cell? ⟨w.heap.size, 6, none⟩ = some (.slice a6 n6 c6) ∧ w'.cell? ⟨bi, oi + k * 8, none⟩ = some (.string p.it[k].1) ∧ w.heap.size < w'.heap.size ∧ bi < w'.heap.size ∧ Below wr.heap.size wr w')) (by kernel_rfl) ⟨b0, b1, b2, b3, b4, b5, b6, t0, bl, hbi, (Below.refl _ _).drew⟩ (fun hHeld => ?_)
      refine held_on 0 (some 87) rfl rfl (by kernel_rfl) (by kernel_rfl) (by kernel_rfl) (fun _ _ _ h => h) (by rfl) hHeld (v := ?v26) ?y26 ?r26
      case y26 => intro w hSw; (try dsimp only at hSw); go_simp; (try with_reducible rfl)
      try simp only [Act.put, List.setIfInBounds_toArray, List.set_cons_zero, List.set_cons_succ]
      refine held_on 1 (some 88) rfl rfl (by kernel_rfl) (by kernel_rfl) (by kernel_rfl) (fun _ _ _ h => h) (by rfl) hHeld (v := ?v27) ?y27 ?r27
      case y27 => intro w hSw; (try dsimp only at hSw); go_simp; (try with_reducible rfl)
      try simp only [Act.put, List.setIfInBounds_toArray, List.set_cons_zero, List.set_cons_succ]
      refine held_on 2 (some 89) rfl rfl (by kernel_rfl) (by kernel_rfl) (by kernel_rfl) (fun _ _ _ h => h) (by rfl) hHeld (v := ?v28) ?y28 ?r28
      case y28 => intro w hSw; (try dsimp only at hSw); go_simp; (try with_reducible rfl)
      try simp only [Act.put, List.setIfInBounds_toArray, List.set_cons_zero, List.set_cons_succ]
      refine held_on 3 (some 90) rfl rfl (by kernel_rfl) (by kernel_rfl) (by kernel_rfl) (fun _ _ _ h => h) (by rfl) hHeld (v := ?v29) ?y29 ?r29
      case y29 => intro w hSw; (try dsimp only at hSw); go_simp; (try with_reducible rfl)
      try simp only [Act.put, List.setIfInBounds_toArray, List.set_cons_zero, List.set_cons_succ]
      refine held_on 4 (some 91) rfl rfl (by kernel_rfl) (by kernel_rfl) (by kernel_rfl) (fun _ _ _ h => h) (by rfl) hHeld (v := ?v30) ?y30 ?r30
      case y30 => intro w hSw; (try dsimp only at hSw); go_simp; (try with_reducible rfl)
      try simp only [Act.put, List.setIfInBounds_toArray, List.set_cons_zero, List.set_cons_succ]
      refine held_on 5 (some 92) rfl rfl (by kernel_rfl) (by kernel_rfl) (by kernel_rfl) (fun _ _ _ h => h) (by rfl) hHeld (v := ?v31) ?y31 ?r31
      case y31 => intro w hSw; (try dsimp only at hSw); go_simp; (try with_reducible rfl)
      try simp only [Act.put, List.setIfInBounds_toArray, List.set_cons_zero, List.set_cons_succ]
      refine held_on 6 (some 93) rfl rfl (by kernel_rfl) (by kernel_rfl) (by kernel_rfl) (fun _ _ _ h => h) (by rfl) hHeld (v := ?v32) ?y32 ?r32
      case y32 => intro w hSw; (try dsimp only at hSw); go_simp; (try with_reducible rfl)
      try simp only [Act.put, List.setIfInBounds_toArray, List.set_cons_zero, List.set_cons_succ]
      refine held_on 7 (some 94) rfl rfl (by kernel_rfl) (by kernel_rfl) (by kernel_rfl) (fun _ _ _ h => h) (by rfl) hHeld (v := ?v33) ?y33 ?r33
      case y33 => intro w hSw; (try dsimp only at hSw); go_simp; (try with_reducible rfl)
      try simp only [Act.put, List.setIfInBounds_toArray, List.set_cons_zero, List.set_cons_succ]
      refine held_on 8 (some 95) rfl rfl (by kernel_rfl) (by kernel_rfl) (by kernel_rfl) (fun _ _ _ h => h) (by rfl) hHeld (v := ?v34) ?y34 ?r34
      case y34 => intro w hSw; (try dsimp only at hSw); go_simp; (try with_reducible rfl)
      try simp only [Act.put, List.setIfInBounds_toArray, List.set_cons_zero, List.set_cons_succ]
      refine wpAnyH_ready (rs := [9]) (by kernel_rfl) (by simp) ?_
      refine AllReadyH.cons rfl (fun K hK => ?_) AllReadyH.nil
      go_simp
      go_at_call 81; refine (specTaken_any ⟨⟨(some ⟨bi, oi, none⟩), p.it.length, c0⟩, ⟨a1, n1, c1⟩, ⟨a2, n2, c2⟩, ⟨a3, n3, c3⟩, ⟨a4, n4, c4⟩, ⟨a5, n5, c5⟩, ⟨a6, n6, c6⟩⟩ p _ _ _ _ _ _ ds l p.it[k].1 _ (HP.out.keep (below_on hb (by obtain ⟨y_c0, y_c1, y_c2, y_c3, y_c4, y_c5, y_c6, y_t0, y_n, y_i, y_R⟩ := hHeld; exact y_R))) (hds.keep (below_on hb (by obtain ⟨y_c0, y_c1, y_c2, y_c3, y_c4, y_c5, y_c6, y_t0, y_n, y_i, y_R⟩ := hHeld; exact y_R))) (hl.keep (below_on hb (by obtain ⟨y_c0, y_c1, y_c2, y_c3, y_c4, y_c5, y_c6, y_t0, y_n, y_i, y_R⟩ := hHeld; exact y_R))) t1 t2).mono ?_; rintro e w6 ⟨gT, M, rfl, hA, hdy, hM, hb3⟩; go_simp
      refine hK.out _ _ ?_ (fun hHeld => ?_)
      · obtain ⟨y_c0, y_c1, y_c2, y_c3, y_c4, y_c5, y_c6, y_t0, y_n, y_i, y_R⟩ := hHeld; exact ⟨(hb3.cell y_n).trans y_c0, (hb3.cell y_n).trans y_c1, (hb3.cell y_n).trans y_c2, (hb3.cell y_n).trans y_c3, (hb3.cell y_n).trans y_c4, (hb3.cell y_n).trans y_c5, (hb3.cell y_n).trans y_c6, (hb3.cell y_i).trans y_t0, Nat.lt_of_lt_of_le y_n hb3.size, Nat.lt_of_lt_of_le y_i hb3.size, below_on y_R hb3⟩
      clear hK K
      try simp only [Act.put, List.setIfInBounds_toArray, List.set_cons_zero, List.set_cons_succ]
      refine held_on 10 (some 86) rfl rfl (by kernel_rfl) (by kernel_rfl) (by kernel_rfl) (fun _ _ _ h => h) (by rfl) hHeld (v := ?v35) ?y35 ?r35
      case y35 => intro w hSw; (try dsimp only at hSw); go_simp; (try with_reducible rfl)
      try simp only [Act.put, List.setIfInBounds_toArray, List.set_cons_zero, List.set_cons_succ]
      refine held_on 11 (some 97) rfl rfl (by kernel_rfl) (by kernel_rfl) (by kernel_rfl) (fun _ _ _ h => h) (by rfl) hHeld (v := ?v36) ?y36 ?r36
      case y36 => intro w hSw; (try dsimp only at hSw); go_simp; (try with_reducible rfl)
      try simp only [Act.put, List.setIfInBounds_toArray, List.set_cons_zero, List.set_cons_succ]
      refine held_on 12 (some 98) rfl rfl (by kernel_rfl) (by kernel_rfl) (by kernel_rfl) (fun _ _ _ h => h) (by rfl) hHeld (v := ?v37) ?y37 ?r37
      case y37 => intro w hSw; (try dsimp only at hSw); go_simp; (try with_reducible rfl)
      try simp only [Act.put, List.setIfInBounds_toArray, List.set_cons_zero, List.set_cons_succ]
      refine held_on 13 (some 11) rfl rfl (by kernel_rfl) (by kernel_rfl) (by kernel_rfl) (fun _ _ _ h => h) (by rfl) hHeld (v := ?v38) ?y38 ?r38
      case y38 => intro w hSw; (try dsimp only at hSw); go_simp; (try with_reducible rfl)
      try simp only [Act.put, List.setIfInBounds_toArray, List.set_cons_zero, List.set_cons_succ]
      refine held_on 14 (some 12) rfl rfl (by kernel_rfl) (by kernel_rfl) (by kernel_rfl) (fun _ _ _ h => h) (by rfl) hHeld (v := ?v39) ?y39 ?r39
      case y39 => intro w hSw; (try dsimp only at hSw); go_simp; (try with_reducible rfl)
      try simp only [Act.put, List.setIfInBounds_toArray, List.set_cons_zero, List.set_cons_succ]
      refine wpAnyH_done (by kernel_rfl) ?_ _
      obtain ⟨y_c0, y_c1, y_c2, y_c3, y_c4, y_c5, y_c6, y_t0, y_n, y_i, y_R⟩ := hHeld
      replace B0 := B0.keep y_R
      replace hb := below_on hb y_R
      clear y_c0 y_c1 y_c2 y_c3 y_c4 y_c5 y_c6 y_t0 y_n y_i y_R b0 b1 b2 b3 b4 b5 b6 bl t0 hbi
      obtain ⟨b0, b1, b2, b3, b4, b5, b6, bl⟩ := B0.seven
      obtain ⟨_, _, e9, hbi, t0, _, _, _, _, _, t6, _⟩ := item_at (HQ0.out.keep hb) hlt
      obtain ⟨rfl, rfl⟩ : bi = _ ∧ oi = _ := by simpa using e9
      clear e9
      have K2 := Lib.hid k2
      clear t1' t2' t3 t4 t5 t7 k2
      go_wp2_with fail
      refine wp_region_held_drew (S := (fun w' => w'.cell? ⟨w.heap.size, 0, none⟩ = some (.slice (some ⟨bi, oi, none⟩) p.it.length c0) ∧ w'.cell? ⟨w.heap.size, 1, none⟩ = some (.slice a1 n1 c1) ∧ w'.cell? ⟨w.heap.size, 2, none⟩ = some (.slice a2 n2 c2) ∧ w'.cell? ⟨w.heap.size, 3, none⟩ = some (.slice a3 n3 c3) ∧ w'.cell? ⟨w.heap.size, 4, none⟩ = some (.slice a4 n4 c4) ∧ w'.cell? ⟨w.heap.size, 5, none⟩ = some (.slice a5 n5 c5) ∧ w'.cell? ⟨w.heap.size, 6, none⟩ = some (.slice a6 n6 c6) ∧ w'.cell? ⟨bi, oi + k * 8, none⟩ = some (.string p.it[k].1) ∧ w.heap.size < w'.heap.size ∧ bi < w'.heap.size ∧ Below w6.heap.size w6 w')) (by kernel_rfl) ⟨b0, b1, b2, b3, b4, b5, b6, t0, bl, hbi, (Below.refl _ _).drew⟩ (fun hHeld => ?_)
      refine held_on 0 (some 99) rfl rfl (by kernel_rfl) (by kernel_rfl) (by kernel_rfl) (fun _ _ _ h => h) (by rfl) hHeld (v := ?v40) ?y40 ?r40
      case y40 => intro w hSw; (try dsimp only at hSw); go_simp; (try with_reducible rfl)
      try simp only [Act.put, List.setIfInBounds_toArray, List.set_cons_zero, List.set_cons_succ]
      refine held_on 1 (some 100) rfl rfl (by kernel_rfl) (by kernel_rfl) (by kernel_rfl) (fun _ _ _ h => h) (by rfl) hHeld (v := ?v41) ?y41 ?r41
      case y41 => intro w hSw; (try dsimp only at hSw); go_simp; (try with_reducible rfl)
      try simp only [Act.put, List.setIfInBounds_toArray, List.set_cons_zero, List.set_cons_succ]
      refine held_on 2 (some 101) rfl rfl (by kernel_rfl) (by kernel_rfl) (by kernel_rfl) (fun _ _ _ h => h) (by rfl) hHeld (v := ?v42) ?y42 ?r42
      case y42 => intro w hSw; (try dsimp only at hSw); go_simp; (try with_reducible rfl)
      try simp only [Act.put, List.setIfInBounds_toArray, List.set_cons_zero, List.set_cons_succ]
      refine held_on 3 (some 102) rfl rfl (by kernel_rfl) (by kernel_rfl) (by kernel_rfl) (fun _ _ _ h => h) (by rfl) hHeld (v := ?v43) ?y43 ?r43
      case y43 => intro w hSw; (try dsimp only at hSw); go_simp; (try with_reducible rfl)
      try simp only [Act.put, List.setIfInBounds_toArray, List.set_cons_zero, List.set_cons_succ]
      refine held_on 4 (some 103) rfl rfl (by kernel_rfl) (by kernel_rfl) (by kernel_rfl) (fun _ _ _ h => h) (by rfl) hHeld (v := ?v44) ?y44 ?r44
      case y44 => intro w hSw; (try dsimp only at hSw); go_simp; (try with_reducible rfl)
      try simp only [Act.put, List.setIfInBounds_toArray, List.set_cons_zero, List.set_cons_succ]
      refine held_on 5 (some 104) rfl rfl (by kernel_rfl) (by kernel_rfl) (by kernel_rfl) (fun _ _ _ h => h) (by rfl) hHeld (v := ?v45) ?y45 ?r45
      case y45 => intro w hSw; (try dsimp only at hSw); go_simp; (try with_reducible rfl)
      try simp only [Act.put, List.setIfInBounds_toArray, List.set_cons_zero, List.set_cons_succ]
      refine held_on 6 (some 105) rfl rfl (by kernel_rfl) (by kernel_rfl) (by kernel_rfl) (fun _ _ _ h => h) (by rfl) hHeld (v := ?v46) ?y46 ?r46
      case y46 => intro w hSw; (try dsimp only at hSw); go_simp; (try with_reducible rfl)
      try simp only [Act.put, List.setIfInBounds_toArray, List.set_cons_zero, List.set_cons_succ]
      refine held_on 7 (some 106) rfl rfl (by kernel_rfl) (by kernel_rfl) (by kernel_rfl) (fun _ _ _ h => h) (by rfl) hHeld (v := ?v47) ?y47 ?r47
      case y47 => intro w hSw; (try dsimp only at hSw); go_simp; (try with_reducible rfl)
      try simp only [Act.put, List.setIfInBounds_toArray, List.set_cons_zero, List.set_cons_succ]
      refine wpAnyH_ready (rs := [8]) (by kernel_rfl) (by simp) ?_
      refine AllReadyH.cons rfl (fun K hK => ?_) AllReadyH.nil
      go_simp
      go_at_call 82; refine (specCome_any ⟨⟨(some ⟨bi, oi, none⟩), p.it.length, c0⟩, ⟨a1, n1, c1⟩, ⟨a2, n2, c2⟩, ⟨a3, n3, c3⟩, ⟨a4, n4, c4⟩, ⟨a5, n5, c5⟩, ⟨a6, n6, c6⟩⟩ p _ _ _ l p.it[k].1 _ (HP.out.keep (below_on hb (by obtain ⟨y_c0, y_c1, y_c2, y_c3, y_c4, y_c5, y_c6, y_t0, y_n, y_i, y_R⟩ := hHeld; exact y_R))) HO.out hx9 (hl.keep (below_on hb (by obtain ⟨y_c0, y_c1, y_c2, y_c3, y_c4, y_c5, y_c6, y_t0, y_n, y_i, y_R⟩ := hHeld; exact y_R))) t1 hf0).mono ?_; rintro e w7 ⟨gC, rfl, hC, hb3⟩; go_simp
      refine hK.out _ _ ?_ (fun hHeld => ?_)
      · obtain ⟨y_c0, y_c1, y_c2, y_c3, y_c4, y_c5, y_c6, y_t0, y_n, y_i, y_R⟩ := hHeld; exact ⟨(hb3.cell y_n).trans y_c0, (hb3.cell y_n).trans y_c1, (hb3.cell y_n).trans y_c2, (hb3.cell y_n).trans y_c3, (hb3.cell y_n).trans y_c4, (hb3.cell y_n).trans y_c5, (hb3.cell y_n).trans y_c6, (hb3.cell y_i).trans y_t0, Nat.lt_of_lt_of_le y_n hb3.size, Nat.lt_of_lt_of_le y_i hb3.size, below_on y_R hb3⟩
      clear hK K
      try simp only [Act.put, List.setIfInBounds_toArray, List.set_cons_zero, List.set_cons_succ]
      refine held_on 9 (some 13) rfl rfl (by kernel_rfl) (by kernel_rfl) (by kernel_rfl) (fun _ _ _ h => h) (by rfl) hHeld (v := ?v48) ?y48 ?r48
      case y48 => intro w hSw; (try dsimp only at hSw); go_simp; (try with_reducible rfl)
      try simp only [Act.put, List.setIfInBounds_toArray, List.set_cons_zero, List.set_cons_succ]
      refine wpAnyH_done (by kernel_rfl) ?_ _
      obtain ⟨y_c0, y_c1, y_c2, y_c3, y_c4, y_c5, y_c6, y_t0, y_n, y_i, y_R⟩ := hHeld
      replace hA := hA.keep y_R
      replace B0 := B0.keep y_R
      replace hb := below_on hb y_R
      clear t6 y_c0 y_c1 y_c2 y_c3 y_c4 y_c5 y_c6 y_t0 y_n y_i y_R b0 b1 b2 b3 b4 b5 b6 bl t0 hbi
      obtain ⟨b0, b1, b2, b3, b4, b5, b6, bl⟩ := B0.seven
      obtain ⟨_, _, e9, hbi, t0, _, _, _, _, _, t6, _⟩ := item_at (HQ0.out.keep hb) hlt
      obtain ⟨rfl, rfl⟩ : bi = _ ∧ oi = _ := by simpa using e9
      clear e9
      go_wp2_with fail
      refine wp_region_held_drew (S := (fun w' => w'.cell? ⟨w.heap.size, 0, none⟩ = some (.slice (some ⟨bi, oi, none⟩) p.it.length c0) ∧ w'.cell? ⟨w.heap.size, 1, none⟩ = some (.slice a1 n1 c1) ∧ w'.cell? ⟨w.heap.size, 2, none⟩ = some (.slice a2 n2 c2) ∧ w'.cell? ⟨w.heap.size, 3, none⟩ = some (.slice a3 n3 c3) ∧ w'.cell? ⟨w.heap.size, 4, none⟩ = some (.slice a4 n4 c4) ∧ w'.cell? ⟨w.heap.size, 5, none⟩ = some (.slice a5 n5 c5) ∧ w'.cell? ⟨w.heap.size, 6, none⟩ = some (.slice a6 n6 c6) ∧ w'.cell? ⟨bi, oi + k * 8, none⟩ = some (.string p.it[k].1) ∧ w.heap.size < w'.heap.size ∧ bi < w'.heap.size ∧ Below w7.heap.size w7 w')) (by kernel_rfl) ⟨b0, b1, b2, b3, b4, b5, b6, t0, bl, hbi, (Below.refl _ _).drew⟩ (fun hHeld => ?_)
      refine held_on 0 (some 108) rfl rfl (by kernel_rfl) (by kernel_rfl) (by kernel_rfl) (fun _ _ _ h => h) (by rfl) hHeld (v := ?v49) ?y49 ?r49
      case y49 => intro w hSw; (try dsimp only at hSw); go_simp; (try with_reducible rfl)
      try simp only [Act.put, List.setIfInBounds_toArray, List.set_cons_zero, List.set_cons_succ]
      refine held_on 1 (some 109) rfl rfl (by kernel_rfl) (by kernel_rfl) (by kernel_rfl) (fun _ _ _ h => h) (by rfl) hHeld (v := ?v50) ?y50 ?r50
      case y50 => intro w hSw; (try dsimp only at hSw); go_simp; (try with_reducible rfl)
      try simp only [Act.put, List.setIfInBounds_toArray, List.set_cons_zero, List.set_cons_succ]
      refine held_on 2 (some 110) rfl rfl (by kernel_rfl) (by kernel_rfl) (by kernel_rfl) (fun _ _ _ h => h) (by rfl) hHeld (v := ?v51) ?y51 ?r51
      case y51 => intro w hSw; (try dsimp only at hSw); go_simp; (try with_reducible rfl)
      try simp only [Act.put, List.setIfInBounds_toArray, List.set_cons_zero, List.set_cons_succ]
      refine held_on 3 (some 111) rfl rfl (by kernel_rfl) (by kernel_rfl) (by kernel_rfl) (fun _ _ _ h => h) (by rfl) hHeld (v := ?v52) ?y52 ?r52
      case y52 => intro w hSw; (try dsimp only at hSw); go_simp; (try with_reducible rfl)
      try simp only [Act.put, List.setIfInBounds_toArray, List.set_cons_zero, List.set_cons_succ]
      refine held_on 4 (some 112) rfl rfl (by kernel_rfl) (by kernel_rfl) (by kernel_rfl) (fun _ _ _ h => h) (by rfl) hHeld (v := ?v53) ?y53 ?r53
      case y53 => intro w hSw; (try dsimp only at hSw); go_simp; (try with_reducible rfl)
      try simp only [Act.put, List.setIfInBounds_toArray, List.set_cons_zero, List.set_cons_succ]
      refine held_on 5 (some 113) rfl rfl (by kernel_rfl) (by kernel_rfl) (by kernel_rfl) (fun _ _ _ h => h) (by rfl) hHeld (v := ?v54) ?y54 ?r54
      case y54 => intro w hSw; (try dsimp only at hSw); go_simp; (try with_reducible rfl)
      try simp only [Act.put, List.setIfInBounds_toArray, List.set_cons_zero, List.set_cons_succ]
      refine held_on 6 (some 114) rfl rfl (by kernel_rfl) (by kernel_rfl) (by kernel_rfl) (fun _ _ _ h => h) (by rfl) hHeld (v := ?v55) ?y55 ?r55
      case y55 => intro w hSw; (try dsimp only at hSw); go_simp; (try with_reducible rfl)
      try simp only [Act.put, List.setIfInBounds_toArray, List.set_cons_zero, List.set_cons_succ]
      refine wpAnyH_ready (rs := [7]) (by kernel_rfl) (by simp) ?_
      refine AllReadyH.cons rfl (fun K hK => ?_) AllReadyH.nil
      go_simp
      go_at_call 41; refine (specStockOf_any ⟨⟨(some ⟨bi, oi, none⟩), p.it.length, c0⟩, ⟨a1, n1, c1⟩, ⟨a2, n2, c2⟩, ⟨a3, n3, c3⟩, ⟨a4, n4, c4⟩, ⟨a5, n5, c5⟩, ⟨a6, n6, c6⟩⟩ p p.it[k].1 _ (HP.out.keep (below_on hb (by obtain ⟨y_c0, y_c1, y_c2, y_c3, y_c4, y_c5, y_c6, y_t0, y_n, y_i, y_R⟩ := hHeld; exact y_R))) HO.out hx9).mono ?_; rintro e w8 ⟨rfl, hb3⟩; go_simp
      refine hK.out _ _ ?_ (fun hHeld => ?_)
      · obtain ⟨y_c0, y_c1, y_c2, y_c3, y_c4, y_c5, y_c6, y_t0, y_n, y_i, y_R⟩ := hHeld; exact ⟨(hb3.cell y_n).trans y_c0, (hb3.cell y_n).trans y_c1, (hb3.cell y_n).trans y_c2, (hb3.cell y_n).trans y_c3, (hb3.cell y_n).trans y_c4, (hb3.cell y_n).trans y_c5, (hb3.cell y_n).trans y_c6, (hb3.cell y_i).trans y_t0, Nat.lt_of_lt_of_le y_n hb3.size, Nat.lt_of_lt_of_le y_i hb3.size, below_on y_R hb3⟩
      clear hK K
      try simp only [Act.put, List.setIfInBounds_toArray, List.set_cons_zero, List.set_cons_succ]
      refine held_on 8 (some 14) rfl rfl (by kernel_rfl) (by kernel_rfl) (by kernel_rfl) (fun _ _ _ h => h) (by rfl) hHeld (v := ?v56) ?y56 ?r56
      case y56 => intro w hSw; (try dsimp only at hSw); go_simp; (try with_reducible rfl)
      try simp only [Act.put, List.setIfInBounds_toArray, List.set_cons_zero, List.set_cons_succ]
      refine wpAnyH_done (by kernel_rfl) ?_ _
      obtain ⟨y_c0, y_c1, y_c2, y_c3, y_c4, y_c5, y_c6, y_t0, y_n, y_i, y_R⟩ := hHeld
      replace hA := hA.keep y_R
      replace hC := hC.keep y_R
      replace B0 := B0.keep y_R
      replace hb := below_on hb y_R
      clear t6 y_c0 y_c1 y_c2 y_c3 y_c4 y_c5 y_c6 y_t0 y_n y_i y_R b0 b1 b2 b3 b4 b5 b6 bl t0 hbi
      obtain ⟨b0, b1, b2, b3, b4, b5, b6, bl⟩ := B0.seven
      obtain ⟨_, _, e9, hbi, t0, _, _, _, _, _, t6, _⟩ := item_at (HQ0.out.keep hb) hlt
      obtain ⟨rfl, rfl⟩ : bi = _ ∧ oi = _ := by simpa using e9
      clear e9
      have hcd := comeOn_days (item := p.it[k].1) t1
      have hsb := stockOf_bd p p.it[k].1
      cases g5 : (takenOn p ds l p.it[k].1).2
      case false =>
        have HF : Hid (isPlan p ds l = false) := isPlan_item hlt (fine_few K2.out g5)
        have cC := hC.cellN (show 0 < 1000 by omega)
        have cA := hA.cellN (show 0 < 1000 by omega)
        have v1 := hcd.cell 0
        have v2 := hdy.cell 0
        generalize (comeOn p l p.it[k].1).getD 0 0 = cv at *
        generalize M.getD 0 0 = mv at *
        have hw1 : IntKind.i64.wrap (stockOf p p.it[k].1 + cv) = stockOf p p.it[k].1 + cv := IntWalk.i64_in _ (by omega)
        have hw2 : IntKind.i64.wrap (stockOf p p.it[k].1 + cv - mv) = stockOf p p.it[k].1 + cv - mv := IntWalk.i64_in _ (by omega)
        go_wp2_with fail
        refine wp_loop_rounds 1 ?_
        rw [rounds_succ]
        go_wp2_with fail
        go_quiet (fail)
        go_wp2_with fail
        go_ret
        exact ⟨ret_bool HF.out.symm, below_drewN hb _⟩
      have hMM := hM g5
      subst hMM
      have HNS := Lib.hid (fun j (hj : j < 1000) => netDay_succ (item := p.it[k].1) t1 t2 j hj)
      have HNB := Lib.hid (fun j => netDay_bd (item := p.it[k].1) t1 t2 j)
      have HN0 := Lib.hid (netDay_zero p ds l p.it[k].1)
      have HFD := Lib.hid (fun j (hj : j < 1000) (h : ¬ p.it[k].2.2.2.2.2.2.1 ≤ netDay p ds l p.it[k].1 (j + 1)) => isPlan_item hlt (fine_day K2.out hj h))
      have HFY := Lib.hid (fun (hdd : ∀ dd < 1000, p.it[k].2.2.2.2.2.2.1 ≤ netDay p ds l p.it[k].1 (dd + 1)) => fine_yes (p := p) (ds := ds) (l := l) g5 hdd)
      have HCD := Lib.hid hcd
      clear hcd hdy hM g5 b0 b1 b2 b3 b4 b5 b6 bl t0 t6 hbi
      generalize comeOn p l p.it[k].1 = C at *
      generalize (takenOn p ds l p.it[k].1).1 = T at *
      rw [← HN0.out]
      go_wp2_with fail
      go_loopw [14, 15] (fun s i wi => ∃ j : Nat, j ≤ 1000 ∧ i = .int .i64 j ∧ s = .int .i64 (netDay p ds l p.it[k].1 j) ∧ Hid (∀ j', j' < j → p.it[k].2.2.2.2.2.2.1 ≤ netDay p ds l p.it[k].1 (j' + 1)) ∧ Below w8.heap.size w8 wi) (fun _ i _ => 1000 - (intOf i).toNat)
      case atStart => exact ⟨0, by omega, rfl, rfl, fun j' h => absurd h (by omega), Below.refl _ _⟩
      case round =>
        obtain ⟨j, hj, rfl, rfl, HJ, hbw⟩ := hrel
        replace hA := hA.keep hbw
        replace hC := hC.keep hbw
        replace B0 := B0.keep hbw
        replace hb := below_on hb hbw
        by_cases hjl : j < 1000
        case neg =>
          obtain rfl : j = 1000 := by omega
          have HY : Hid ((p.it.take (k + 1)).all (fineItem p ds l) = true) := by show _ = _; rw [HAT.out, HI.out, HFY.out (fun d hd => HJ.out d hd)]; rfl
          go_wp2_with fail
          go_roundw
          case rel => exact ⟨k + 1, by omega, by go_num, HY.out, B0, hb⟩
          case measure => simp [intOf]; omega
        have HS := Lib.hid (HNS.out j hjl)
        have hn1 := HNB.out j
        have hn2 := HNB.out (j + 1)
        rw [HS.out] at hn2
        have v1 := HCD.out.cell j
        have cC := hC.cellN hjl
        have cA := hA.cellN hjl
        have j1 : (j : Int) < 1000 := by omega
        have hsv := HFD.out j hjl
        rw [HS.out] at hsv
        have HSV := Lib.hid hsv
        clear hsv
        generalize netDay p ds l p.it[k].1 j = nj at *
        generalize C.getD j 0 = cv at *
        generalize T.getD j 0 = mv at *
        have hw1 : IntKind.i64.wrap (nj + cv) = nj + cv := IntWalk.i64_in _ (by omega)
        have hw2 : IntKind.i64.wrap (nj + cv - mv) = nj + cv - mv := IntWalk.i64_in _ (by omega)
        go_wp2_with fail
        go_quiet (fail)
        replace B0 := B0.keep (below_drewN (Below.refl _ _) nq)
        replace hb := below_drewN hb nq
        replace hbw := below_drewN hbw nq
        clear cC cA hA hC
        generalize hwq : wr.drewN nq = wq at *
        clear hwq
        obtain ⟨b0, b1, b2, b3, b4, b5, b6, bl⟩ := B0.seven
        obtain ⟨_, _, e9, hbi, t0, _, _, _, _, _, t6, _⟩ := item_at (HQ0.out.keep hb) hlt
        obtain ⟨rfl, rfl⟩ : bi = _ ∧ oi = _ := by simpa using e9
        clear e9
        by_cases hs : nj + cv - mv < p.it[k].2.2.2.2.2.2.1
        · have HF := HSV.out (by omega)
          go_wp2_with fail
          go_ret
          exact ⟨ret_bool HF.symm, hb⟩
        · have HJ2 : Hid (∀ j', j' < j + 1 → p.it[k].2.2.2.2.2.2.1 ≤ netDay p ds l p.it[k].1 (j' + 1)) := fun j' h => by
            rcases Nat.lt_or_ge j' j with h1 | h1
            · exact HJ.out j' h1
            · obtain rfl : j' = j := by omega
              rw [HS.out]; omega
          go_wp2_with fail
          go_roundw
          case rel => exact ⟨j + 1, by omega, by go_num, by rw [HS.out], HJ2.out, hbw⟩
          case measure => simp [intOf]; omega
end Go.Proofs.YtlnkofnfgemfdaaGreat
