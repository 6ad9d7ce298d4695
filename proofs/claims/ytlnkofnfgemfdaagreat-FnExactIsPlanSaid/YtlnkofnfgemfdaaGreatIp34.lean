/- Part 34 of the texts of this claim: The walk of IsPlan (the program's). -/
import Derived.Test.YtlnkofnfgemfdaaGreatIp32
/- The walk of IsPlan (the program's). -/
namespace Go.Proofs.YtlnkofnfgemfdaaGreat
open Go.RowKit
theorem chgF_step (p : Pt) (ds : List Dm) (l : List Pl) (item : ByteArray) (fl : List Fl) (j : Nat) (h : j < fl.length) : chgR p ds l item ((evsR fl).take (j + 1) ++ evsG p item (l.take 0)) = tkStep (chgR p ds l item ((evsR fl).take j ++ evsG p item (l.take 0))) (1, fl[j].2, fl[j].1) := by
  have e : evsG p item (l.take 0) = [] := by simp [evsG]
  rw [e, List.append_nil, List.append_nil]
  unfold evsR
  rw [map_take1 _ _ _ h, chg_snoc]
theorem chgG_yes (p : Pt) (ds : List Dm) (l : List Pl) (item : ByteArray) (r : List (Int × Int × Int)) (k : Nat) (h : k < l.length) (hi : isOf item l[k] = true) : chgR p ds l item (r ++ evsG p item (l.take (k + 1))) = tkStep (chgR p ds l item (r ++ evsG p item (l.take k))) (goodV p item l[k]) := by
  rw [evsG_take _ _ _ _ h, if_pos hi, ← List.append_assoc, chg_snoc]
theorem chgG_no (p : Pt) (ds : List Dm) (l : List Pl) (item : ByteArray) (r : List (Int × Int × Int)) (k : Nat) (h : k < l.length) (hi : isOf item l[k] = false) : chgR p ds l item (r ++ evsG p item (l.take (k + 1))) = chgR p ds l item (r ++ evsG p item (l.take k)) := by
  rw [evsG_take _ _ _ _ h, if_neg (by rw [hi]; decide), List.append_nil]
theorem chg_none (p : Pt) (ds : List Dm) (l : List Pl) (item : ByteArray) (fl : List Fl) : chgR p ds l item ((evsR fl).take 0 ++ evsG p item (l.take 0)) = negL (takenOn p ds l item).1 := by
  simp [evsG, chgR]
theorem chg_all (p : Pt) (ds : List Dm) (l : List Pl) (item : ByteArray) (fl : List Fl) : chgR p ds l item ((evsR fl).take fl.length ++ evsG p item (l.take l.length)) = chgR p ds l item (evsR fl ++ evsG p item l) := by
  rw [List.take_length, List.take_of_length_le (by rw [evsR_len]; omega)]
set_option maxRecDepth 100000 in
set_option maxHeartbeats 16000000 in
theorem implIsPlan_any (r : PtR) (p : Pt) (A B : Option Addr) (n c m d : Nat) (ds : List Dm) (l : List Pl) (w : World) (hp : PlantIn w r p) (hok : okPt p) (hds : DemandsIn w A n ds) (hokd : ∀ x ∈ ds, okDm x) (hnc : n ≤ c) (hl : PlannedsIn w B m l) (hokl : ∀ x ∈ l, okPl x) :
    Calls Tryz.prog 25 #[.agg #[.slice r.i.a r.i.n r.i.c, .slice r.l.a r.l.n r.l.c, .slice r.w.a r.w.n r.w.c, .slice r.e.a r.e.n r.e.c, .slice r.p.a r.p.n r.p.c, .slice r.s.a r.s.n r.s.c, .slice r.q.a r.q.n r.q.c], .slice A n c, .slice B m d] w fun e w' => e = .returned (.bool (isPlan p ds l)) ∧ Below w.heap.size w w' := by
  have hnl := hl.1
  subst hnl
  obtain ⟨⟨a0, n0, c0⟩, ⟨a1, n1, c1⟩, ⟨a2, n2, c2⟩, ⟨a3, n3, c3⟩, ⟨a4, n4, c4⟩, ⟨a5, n5, c5⟩, ⟨a6, n6, c6⟩⟩ := r
  have HP := Lib.hid hp
  have HQ0 := Lib.hid hp.it
  dsimp only at HQ0 ⊢
  clear hp
  have hn0 : n0 = p.it.length := HQ0.out.1
  subst hn0
  have HO := Lib.hid hok
  have HOD := Lib.hid hokd
  have HOL := Lib.hid hokl
  clear hok hokd hokl
  have hb := below_alloc w (.cells #[.slice a0 p.it.length c0, .slice a1 n1 c1, .slice a2 n2 c2, .slice a3 n3 c3, .slice a4 n4 c4, .slice a5 n5 c5, .slice a6 n6 c6] 48)
  have B0 : BoxOf (w.alloc (.cells #[.slice a0 p.it.length c0, .slice a1 n1 c1, .slice a2 n2 c2, .slice a3 n3 c3, .slice a4 n4 c4, .slice a5 n5 c5, .slice a6 n6 c6] 48)) w.heap.size [.slice a0 p.it.length c0, .slice a1 n1 c1, .slice a2 n2 c2, .slice a3 n3 c3, .slice a4 n4 c4, .slice a5 n5 c5, .slice a6 n6 c6] := boxOf_alloc w #[.slice a0 p.it.length c0, .slice a1 n1 c1, .slice a2 n2 c2, .slice a3 n3 c3, .slice a4 n4 c4, .slice a5 n5 c5, .slice a6 n6 c6] 48
  go_enter Tryz.func25, Tryz.ntmps25
  go_wp2_with fail
  generalize (w.alloc (.cells #[.slice a0 p.it.length c0, .slice a1 n1 c1, .slice a2 n2 c2, .slice a3 n3 c3, .slice a4 n4 c4, .slice a5 n5 c5, .slice a6 n6 c6] 48)) = V at *
  refine (implArePlanned_any ⟨⟨a0, p.it.length, c0⟩, ⟨a1, n1, c1⟩, ⟨a2, n2, c2⟩, ⟨a3, n3, c3⟩, ⟨a4, n4, c4⟩, ⟨a5, n5, c5⟩, ⟨a6, n6, c6⟩⟩ p _ _ _ l _ (HP.out.keep hb) HO.out (hl.keep hb) HOL.out).mono ?_
  rintro e w1 ⟨rfl, hs⟩
  replace hb := below_on hb hs
  replace B0 := B0.keep hs
  clear hs
  cases t1 : arePlanned p l
  · go_wp2_with fail
    go_ret
    exact ⟨ret_bool (isPlan_no (by rw [t1]; rfl)).symm, hb⟩
  go_wp2_with fail
  refine (implAreDemands_any _ _ _ ds _ (hds.keep hb) HOD.out hnc).mono ?_
  rintro e w2 ⟨rfl, hs⟩
  replace hb := below_on hb hs
  replace B0 := B0.keep hs
  clear hs
  cases t2 : areDemands ds
  · go_wp2_with fail
    go_ret
    exact ⟨ret_bool (isPlan_no (by rw [t1, t2]; rfl)).symm, hb⟩
  have hip := (arePlanned_parts t1).1
  have HPP := Lib.hid (arePlanned_parts t1).2.2
  have h500 := (arePlanned_parts t1).2.1
  have hcat := (isBills_parts (isPlant_parts hip).1).1
  have h12 : p.it.length ≤ 12 := isCat_12 hcat
  have HFS := Lib.hid (fun k hk => find_self hcat k hk)
  have HIT := Lib.hid (fun q (hq : q < p.it.length) => isItem_lots _ (isPlant_item hip hq))
  have HIP := Lib.hid hip
  clear hcat hip
  go_wp2_with fail
  go_loopw [36] (fun i wr => ∃ k : Nat, k ≤ l.length ∧ i = .int .i64 k ∧ Hid ((l.take k).all (okRel p) = true) ∧ BoxOf wr w.heap.size [.slice a0 p.it.length c0, .slice a1 n1 c1, .slice a2 n2 c2, .slice a3 n3 c3, .slice a4 n4 c4, .slice a5 n5 c5, .slice a6 n6 c6] ∧ Below w.heap.size w wr) (fun i _ => l.length - (intOf i).toNat)
  case atStart => exact ⟨0, by omega, rfl, rfl, B0, hb⟩
  case round =>
    clear B0 hb
    obtain ⟨k, hk, rfl, HI, B0, hb⟩ := hrel
    by_cases hlt : k < l.length
    case pos =>
      have HAT := Lib.hid (all_take l (okRel p) k hlt)
      obtain ⟨z1, z2, ⟨z3, z4⟩, ⟨z5, z6⟩, z7, z8⟩ := HPP.out k hlt
      obtain ⟨b, o, rfl, hbl, hc0, hc1, hc2, hc3, hc4⟩ := planned_at (hl.keep hb) hlt
      have hs := below_alloc wr (.cells #[.string l[k].1, .int .i64 l[k].2.1, .int .i64 l[k].2.2.1, .int .i64 l[k].2.2.2.1, .bool l[k].2.2.2.2] 93)
      have BO : BoxOf (wr.alloc (.cells #[.string l[k].1, .int .i64 l[k].2.1, .int .i64 l[k].2.2.1, .int .i64 l[k].2.2.2.1, .bool l[k].2.2.2.2] 93)) wr.heap.size [.string l[k].1, .int .i64 l[k].2.1, .int .i64 l[k].2.2.1, .int .i64 l[k].2.2.2.1, .bool l[k].2.2.2.2] := boxOf_alloc wr #[.string l[k].1, .int .i64 l[k].2.1, .int .i64 l[k].2.2.1, .int .i64 l[k].2.2.2.1, .bool l[k].2.2.2.2] 93
      replace hb := below_on hb hs
      replace B0 := B0.keep hs
      obtain ⟨f1, f2⟩ := findIt_bd p.it l[k].1
      obtain ⟨qn, hqn⟩ : ∃ qn : Nat, findIt p.it l[k].1 = (qn : Int) := ⟨(findIt p.it l[k].1).toNat, by omega⟩
      have q1 : qn < p.it.length := by omega
      have q2 : (qn : Int) < (p.it.length : Int) := by omega
      have q3 : (0 : Int) ≤ (qn : Int) := by omega
      have HQN := Lib.hid hqn
      have HPX := Lib.hid (planX_at hqn q1)
      obtain ⟨_, _, _, hld, _⟩ := HIT.out qn q1
      obtain ⟨kn, hkn⟩ : ∃ kn : Nat, p.it[qn].2.2.2.1 = (kn : Int) := ⟨(p.it[qn].2.2.2.1).toNat, by omega⟩
      have hk30 : kn ≤ 30 := by omega
      have HKN := Lib.hid hkn
      have HRL : Hid (relOf p l[k] = addWd p.wk p.ex l[k].2.2.2.1 (-p.it[qn].2.2.2.1)) := by show _ = _; unfold relOf; rw [HPX.out]
      clear hqn f1 f2 z1 z2 hkn hld
      obtain ⟨bi, oi, hae, hbi, t0, t1', t2', t3, t4, t5, t6, t7⟩ := item_at (HQ0.out.keep hb) q1
      subst hae
      go_wp2_with fail
      generalize (wr.alloc (.cells #[.string l[k].1, .int .i64 l[k].2.1, .int .i64 l[k].2.2.1, .int .i64 l[k].2.2.2.1, .bool l[k].2.2.2.2] 93)) = wq at *
      generalize wr.heap.size = NX at *
      clear hc0 hc1 hc2 hc3 hc4 hbl hs
      have x0 := BO.2 0 _ rfl
      have x3 := BO.2 3 _ rfl
      obtain ⟨b0, b1, b2, b3, b4, b5, b6, bl⟩ := B0.seven
      refine wp_region_held_drew (S := (fun w' => w'.cell? ⟨w.heap.size, 0, none⟩ = some (.slice (some ⟨bi, oi, none⟩) p.it.length c0) ∧ w'.cell? ⟨w.heap.size, 1, none⟩ = some (.slice a1 n1 c1) ∧ w'.cell? ⟨w.heap.size, 2, none⟩ = some (.slice a2 n2 c2) ∧ w'.cell? ⟨w.heap.size, 3, none⟩ = some (.slice a3 n3 c3) ∧ w'.cell? ⟨w.heap.size, 4, none⟩ = some (.slice a4 n4 c4) ∧ w'.cell? ⟨w.heap.size, 5, none⟩ = some (.slice a5 n5 c5) ∧ w'.cell? ⟨w.heap.size, 6, none⟩ = some (.slice a6 n6 c6) ∧ w'.cell? ⟨bi, oi + qn * 8, none⟩ = some (.string p.it[qn].1) ∧ w'.cell? ⟨bi, oi + qn * 8 + 1, none⟩ = some (.string p.it[qn].2.1) ∧ w'.cell? ⟨bi, oi + qn * 8 + 2, none⟩ = some (.int .i64 p.it[qn].2.2.1) ∧ w'.cell? ⟨bi, oi + qn * 8 + 3, none⟩ = some (.int .i64 p.it[qn].2.2.2.1) ∧ w'.cell? ⟨bi, oi + qn * 8 + 4, none⟩ = some (.int .i64 p.it[qn].2.2.2.2.1) ∧ w'.cell? ⟨bi, oi + qn * 8 + 5, none⟩ = some (.int .i64 p.it[qn].2.2.2.2.2.1) ∧ w'.cell? ⟨bi, oi + qn * 8 + 6, none⟩ = some (.int .i64 p.it[qn].2.2.2.2.2.2.1) ∧ w'.cell? ⟨bi, oi + qn * 8 + 7, none⟩ = some (.int .i64 p.it[qn].2.2.2.2.2.2.2) ∧ w'.cell? ⟨NX, 0, none⟩ = some (.string l[k].1) ∧ w'.cell? ⟨NX, 3, none⟩ = some (.int .i64 l[k].2.2.2.1) ∧ w.heap.size < w'.heap.size ∧ NX < w'.heap.size ∧ bi < w'.heap.size ∧ Below wq.heap.size wq w')) (by kernel_rfl) ⟨b0, b1, b2, b3, b4, b5, b6, t0, t1', t2', t3, t4, t5, t6, t7, x0, x3, bl, BO.1, hbi, (Below.refl _ _).drew⟩ (fun hHeld => ?_)
      refine held_on 0 (some 41) rfl rfl (by kernel_rfl) (by kernel_rfl) (by kernel_rfl) (fun _ _ _ h => h) (by rfl) hHeld (v := ?v1) ?y1 ?r1
      case y1 => intro w hSw; (try dsimp only at hSw); go_simp; (try with_reducible rfl)
      try simp only [Act.put, List.setIfInBounds_toArray, List.set_cons_zero, List.set_cons_succ]
      refine held_on 1 (some 42) rfl rfl (by kernel_rfl) (by kernel_rfl) (by kernel_rfl) (fun _ _ _ h => h) (by rfl) hHeld (v := ?v2) ?y2 ?r2
      case y2 => intro w hSw; (try dsimp only at hSw); go_simp; (try with_reducible rfl)
      try simp only [Act.put, List.setIfInBounds_toArray, List.set_cons_zero, List.set_cons_succ]
      refine held_on 2 (some 43) rfl rfl (by kernel_rfl) (by kernel_rfl) (by kernel_rfl) (fun _ _ _ h => h) (by rfl) hHeld (v := ?v3) ?y3 ?r3
      case y3 => intro w hSw; (try dsimp only at hSw); go_simp; (try with_reducible rfl)
      try simp only [Act.put, List.setIfInBounds_toArray, List.set_cons_zero, List.set_cons_succ]
      refine held_on 3 (some 44) rfl rfl (by kernel_rfl) (by kernel_rfl) (by kernel_rfl) (fun _ _ _ h => h) (by rfl) hHeld (v := ?v4) ?y4 ?r4
      case y4 => intro w hSw; (try dsimp only at hSw); go_simp; (try with_reducible rfl)
      try simp only [Act.put, List.setIfInBounds_toArray, List.set_cons_zero, List.set_cons_succ]
      refine held_on 4 (some 45) rfl rfl (by kernel_rfl) (by kernel_rfl) (by kernel_rfl) (fun _ _ _ h => h) (by rfl) hHeld (v := ?v5) ?y5 ?r5
      case y5 => intro w hSw; (try dsimp only at hSw); go_simp; (try with_reducible rfl)
      try simp only [Act.put, List.setIfInBounds_toArray, List.set_cons_zero, List.set_cons_succ]
      refine held_on 5 (some 46) rfl rfl (by kernel_rfl) (by kernel_rfl) (by kernel_rfl) (fun _ _ _ h => h) (by rfl) hHeld (v := ?v6) ?y6 ?r6
      case y6 => intro w hSw; (try dsimp only at hSw); go_simp; (try with_reducible rfl)
      try simp only [Act.put, List.setIfInBounds_toArray, List.set_cons_zero, List.set_cons_succ]
      refine held_on 6 (some 47) rfl rfl (by kernel_rfl) (by kernel_rfl) (by kernel_rfl) (fun _ _ _ h => h) (by rfl) hHeld (v := ?v7) ?y7 ?r7
      case y7 => intro w hSw; (try dsimp only at hSw); go_simp; (try with_reducible rfl)
      try simp only [Act.put, List.setIfInBounds_toArray, List.set_cons_zero, List.set_cons_succ]
      refine held_on 10 (some 51) rfl rfl (by kernel_rfl) (by kernel_rfl) (by kernel_rfl) (fun _ _ _ h => h) (by rfl) hHeld (v := ?v8) ?y8 ?r8
      case y8 => intro w hSw; (try dsimp only at hSw); go_simp; (try with_reducible rfl)
      try simp only [Act.put, List.setIfInBounds_toArray, List.set_cons_zero, List.set_cons_succ]
      refine held_on 11 (some 52) rfl rfl (by kernel_rfl) (by kernel_rfl) (by kernel_rfl) (fun _ _ _ h => h) (by rfl) hHeld (v := ?v9) ?y9 ?r9
      case y9 => intro w hSw; (try dsimp only at hSw); go_simp; (try with_reducible rfl)
      try simp only [Act.put, List.setIfInBounds_toArray, List.set_cons_zero, List.set_cons_succ]
      refine wpAnyH_ready (rs := [7]) (by kernel_rfl) (by simp) ?_
      refine AllReadyH.cons rfl (fun K hK => ?_) AllReadyH.nil
      go_simp
      go_at_call 53; refine (implFindItem_any _ _ _ p.it _ _ (HQ0.out.keep (below_on hb (by obtain ⟨y_c0, y_c1, y_c2, y_c3, y_c4, y_c5, y_c6, y_t0, y_t1, y_t2, y_t3, y_t4, y_t5, y_t6, y_t7, y_x0, y_x3, y_n, y_b, y_i, y_R⟩ := hHeld; exact y_R)))).mono ?_; rintro e w6 ⟨rfl, hb3⟩; rw [HQN.out]; go_simp
      refine hK.out _ _ ?_ (fun hHeld => ?_)
      · obtain ⟨y_c0, y_c1, y_c2, y_c3, y_c4, y_c5, y_c6, y_t0, y_t1, y_t2, y_t3, y_t4, y_t5, y_t6, y_t7, y_x0, y_x3, y_n, y_b, y_i, y_R⟩ := hHeld; exact ⟨(hb3.cell y_n).trans y_c0, (hb3.cell y_n).trans y_c1, (hb3.cell y_n).trans y_c2, (hb3.cell y_n).trans y_c3, (hb3.cell y_n).trans y_c4, (hb3.cell y_n).trans y_c5, (hb3.cell y_n).trans y_c6, (hb3.cell y_i).trans y_t0, (hb3.cell y_i).trans y_t1, (hb3.cell y_i).trans y_t2, (hb3.cell y_i).trans y_t3, (hb3.cell y_i).trans y_t4, (hb3.cell y_i).trans y_t5, (hb3.cell y_i).trans y_t6, (hb3.cell y_i).trans y_t7, (hb3.cell y_b).trans y_x0, (hb3.cell y_b).trans y_x3, Nat.lt_of_lt_of_le y_n hb3.size, Nat.lt_of_lt_of_le y_b hb3.size, Nat.lt_of_lt_of_le y_i hb3.size, below_on y_R hb3⟩
      clear hK K
      try simp only [Act.put, List.setIfInBounds_toArray, List.set_cons_zero, List.set_cons_succ]
      refine held_on 8 (some 49) rfl rfl (by kernel_rfl) (by kernel_rfl) (by kernel_rfl) (fun _ _ _ h => h) (by rfl) hHeld (v := ?v10) ?y10 ?r10
      case y10 => intro w hSw; (try dsimp only at hSw); go_simp; (try with_reducible rfl)
      try simp only [Act.put, List.setIfInBounds_toArray, List.set_cons_zero, List.set_cons_succ]
      refine held_on 9 (some 50) rfl rfl (by kernel_rfl) (by kernel_rfl) (by kernel_rfl) (fun _ _ _ h => h) (by rfl) hHeld (v := ?v11) ?y11 ?r11
      case y11 => intro w hSw; (try dsimp only at hSw); go_simp; (try with_reducible rfl)
      try simp only [Act.put, List.setIfInBounds_toArray, List.set_cons_zero, List.set_cons_succ]
      refine wpAnyH_ready (rs := [12]) (by kernel_rfl) (by simp) ?_
      refine AllReadyH.cons rfl (fun K hK => ?_) AllReadyH.nil
      go_simp
      go_at_call 61; refine (releaseOf_any ⟨⟨(some ⟨bi, oi, none⟩), p.it.length, c0⟩, ⟨a1, n1, c1⟩, ⟨a2, n2, c2⟩, ⟨a3, n3, c3⟩, ⟨a4, n4, c4⟩, ⟨a5, n5, c5⟩, ⟨a6, n6, c6⟩⟩ p p.it[qn] l[k].2.2.2.1 _ (HP.out.keep (below_on hb (by obtain ⟨y_c0, y_c1, y_c2, y_c3, y_c4, y_c5, y_c6, y_t0, y_t1, y_t2, y_t3, y_t4, y_t5, y_t6, y_t7, y_x0, y_x3, y_n, y_b, y_i, y_R⟩ := hHeld; exact y_R))) kn HKN.out hk30).mono ?_; rintro e w8 ⟨rfl, hb3⟩; go_simp
      refine hK.out _ _ ?_ (fun hHeld => ?_)
      · obtain ⟨y_c0, y_c1, y_c2, y_c3, y_c4, y_c5, y_c6, y_t0, y_t1, y_t2, y_t3, y_t4, y_t5, y_t6, y_t7, y_x0, y_x3, y_n, y_b, y_i, y_R⟩ := hHeld; exact ⟨(hb3.cell y_n).trans y_c0, (hb3.cell y_n).trans y_c1, (hb3.cell y_n).trans y_c2, (hb3.cell y_n).trans y_c3, (hb3.cell y_n).trans y_c4, (hb3.cell y_n).trans y_c5, (hb3.cell y_n).trans y_c6, (hb3.cell y_i).trans y_t0, (hb3.cell y_i).trans y_t1, (hb3.cell y_i).trans y_t2, (hb3.cell y_i).trans y_t3, (hb3.cell y_i).trans y_t4, (hb3.cell y_i).trans y_t5, (hb3.cell y_i).trans y_t6, (hb3.cell y_i).trans y_t7, (hb3.cell y_b).trans y_x0, (hb3.cell y_b).trans y_x3, Nat.lt_of_lt_of_le y_n hb3.size, Nat.lt_of_lt_of_le y_b hb3.size, Nat.lt_of_lt_of_le y_i hb3.size, below_on y_R hb3⟩
      clear hK K
      try simp only [Act.put, List.setIfInBounds_toArray, List.set_cons_zero, List.set_cons_succ]
      refine held_on 13 (some 40) rfl rfl (by kernel_rfl) (by kernel_rfl) (by kernel_rfl) (fun _ _ _ h => h) (by rfl) hHeld (v := ?v12) ?y12 ?r12
      case y12 => intro w hSw; (try dsimp only at hSw); go_simp; (try with_reducible rfl)
      try simp only [Act.put, List.setIfInBounds_toArray, List.set_cons_zero, List.set_cons_succ]
      refine held_on 14 (some 54) rfl rfl (by kernel_rfl) (by kernel_rfl) (by kernel_rfl) (fun _ _ _ h => h) (by rfl) hHeld (v := ?v13) ?y13 ?r13
      case y13 => intro w hSw; (try dsimp only at hSw); go_simp; (try with_reducible rfl)
      try simp only [Act.put, List.setIfInBounds_toArray, List.set_cons_zero, List.set_cons_succ]
      refine held_on 15 (some 55) rfl rfl (by kernel_rfl) (by kernel_rfl) (by kernel_rfl) (fun _ _ _ h => h) (by rfl) hHeld (v := ?v14) ?y14 ?r14
      case y14 => intro w hSw; (try dsimp only at hSw); go_simp; (try with_reducible rfl)
      try simp only [Act.put, List.setIfInBounds_toArray, List.set_cons_zero, List.set_cons_succ]
      refine held_on 16 (some 9) rfl rfl (by kernel_rfl) (by kernel_rfl) (by kernel_rfl) (fun _ _ _ h => h) (by rfl) hHeld (v := ?v15) ?y15 ?r15
      case y15 => intro w hSw; (try dsimp only at hSw); go_simp; (try with_reducible rfl)
      try simp only [Act.put, List.setIfInBounds_toArray, List.set_cons_zero, List.set_cons_succ]
      refine held_on 17 (some 10) rfl rfl (by kernel_rfl) (by kernel_rfl) (by kernel_rfl) (fun _ _ _ h => h) (by rfl) hHeld (v := ?v16) ?y16 ?r16
      case y16 => intro w hSw; (try dsimp only at hSw); go_simp; (try with_reducible rfl)
      try simp only [Act.put, List.setIfInBounds_toArray, List.set_cons_zero, List.set_cons_succ]
      refine wpAnyH_done (by kernel_rfl) ?_ _
      obtain ⟨y_c0, y_c1, y_c2, y_c3, y_c4, y_c5, y_c6, y_t0, y_t1, y_t2, y_t3, y_t4, y_t5, y_t6, y_t7, y_x0, y_x3, y_n, y_b, y_i, y_R⟩ := hHeld
      replace B0 := B0.keep y_R
      replace BO := BO.keep y_R
      replace hb := below_on hb y_R
      clear y_c0 y_c1 y_c2 y_c3 y_c4 y_c5 y_c6 y_t0 y_t1 y_t2 y_t3 y_t4 y_t5 y_t6 y_t7 y_x0 y_x3 y_n y_b y_i y_R b0 b1 b2 b3 b4 b5 b6 bl hbi t0 t1' t2' t3 t4 t5 t6 t7 x0 x3
      generalize hadd : addWd p.wk p.ex l[k].2.2.2.1 (-p.it[qn].2.2.2.1) = ad at *
      obtain ⟨ad1, ad2⟩ := ad
      have HOK : Hid (okRel p l[k] = ((l[k].2.2.1 == ad1) && (l[k].2.2.2.2 == !ad2))) := by show _ = _; unfold okRel; rw [HRL.out]
      generalize l[k].2.2.2.2 = lt at *
      generalize hrel9 : l[k].2.2.1 = rl at *
      clear hrel9 hadd HRL
      have x2 := BO.2 2 _ rfl
      have x4 := BO.2 4 _ rfl
      cases e2 : (rl == ad1)
      · have e3 : ¬ rl = ad1 := by simpa using e2
        have HF : Hid (isPlan p ds l = false) := isPlan_rel hlt (by rw [HOK.out, e2]; rfl)
        go_wp2_with fail
        go_ret
        exact ⟨ret_bool HF.out.symm, hb⟩
      obtain rfl : rl = ad1 := by simpa using e2
      cases lt
      · cases ad2
        · skip
          have HF : Hid (isPlan p ds l = false) := isPlan_rel hlt (by rw [HOK.out]; simp)
          go_wp2_with fail
          go_ret
          exact ⟨ret_bool HF.out.symm, hb⟩
        · skip
          have HY : Hid ((l.take (k + 1)).all (okRel p) = true) := by show _ = _; rw [HAT.out, HI.out, HOK.out]; simp
          go_wp2_with fail
          go_roundw
          case rel => exact ⟨k + 1, by omega, by go_num, HY.out, B0, hb⟩
          case measure => simp [intOf]; omega
      · cases ad2
        · skip
          have HY : Hid ((l.take (k + 1)).all (okRel p) = true) := by show _ = _; rw [HAT.out, HI.out, HOK.out]; simp
          go_wp2_with fail
          go_roundw
          case rel => exact ⟨k + 1, by omega, by go_num, HY.out, B0, hb⟩
          case measure => simp [intOf]; omega
        · skip
          have HF : Hid (isPlan p ds l = false) := isPlan_rel hlt (by rw [HOK.out]; simp)
          go_wp2_with fail
          go_ret
          exact ⟨ret_bool HF.out.symm, hb⟩
    obtain rfl : k = l.length := by omega
    have HREL := HI
    clear HI hk hlt
    obtain ⟨b0, b1, b2, b3, b4, b5, b6, bl⟩ := B0.seven
    go_wp2_with fail
    clear b0 b1 b2 b3 b4 b5 b6 bl
    go_loopw [70] (fun i wr => ∃ k : Nat, k ≤ p.it.length ∧ i = .int .i64 k ∧ Hid ((p.it.take k).all (fineItem p ds l) = true) ∧ BoxOf wr w.heap.size [.slice a0 p.it.length c0, .slice a1 n1 c1, .slice a2 n2 c2, .slice a3 n3 c3, .slice a4 n4 c4, .slice a5 n5 c5, .slice a6 n6 c6] ∧ Below w.heap.size w wr) (fun i _ => p.it.length - (intOf i).toNat)
    case atStart => exact ⟨0, by omega, rfl, rfl, B0, hb⟩
    case round =>
      clear B0 hb
      obtain ⟨k, hk, rfl, HI, B0, hb⟩ := hrel
      by_cases hlt : k < p.it.length
      case neg =>
        obtain rfl : k = p.it.length := by omega
        have HF : Hid (isPlan p ds l = true) := isPlan_yes t1 t2 HREL.out HI.out
        go_wp2_with fail
        go_ret
        exact ⟨ret_bool HF.out.symm, hb⟩
      have HAT := Lib.hid (all_take p.it (fineItem p ds l) k hlt)
      obtain ⟨bi, oi, hae, hbi, t0, t1', t2', t3, t4, t5, t6, t7⟩ := item_at (HQ0.out.keep hb) hlt
      subst hae
      have hs := below_alloc wr (.cells #[.string p.it[k].1, .string p.it[k].2.1, .int .i64 p.it[k].2.2.1, .int .i64 p.it[k].2.2.2.1, .int .i64 p.it[k].2.2.2.2.1, .int .i64 p.it[k].2.2.2.2.2.1, .int .i64 p.it[k].2.2.2.2.2.2.1, .int .i64 p.it[k].2.2.2.2.2.2.2] 81)
      have BX : BoxOf (wr.alloc (.cells #[.string p.it[k].1, .string p.it[k].2.1, .int .i64 p.it[k].2.2.1, .int .i64 p.it[k].2.2.2.1, .int .i64 p.it[k].2.2.2.2.1, .int .i64 p.it[k].2.2.2.2.2.1, .int .i64 p.it[k].2.2.2.2.2.2.1, .int .i64 p.it[k].2.2.2.2.2.2.2] 81)) wr.heap.size [.string p.it[k].1, .string p.it[k].2.1, .int .i64 p.it[k].2.2.1, .int .i64 p.it[k].2.2.2.1, .int .i64 p.it[k].2.2.2.2.1, .int .i64 p.it[k].2.2.2.2.2.1, .int .i64 p.it[k].2.2.2.2.2.2.1, .int .i64 p.it[k].2.2.2.2.2.2.2] := boxOf_alloc wr #[.string p.it[k].1, .string p.it[k].2.1, .int .i64 p.it[k].2.2.1, .int .i64 p.it[k].2.2.2.1, .int .i64 p.it[k].2.2.2.2.1, .int .i64 p.it[k].2.2.2.2.2.1, .int .i64 p.it[k].2.2.2.2.2.2.1, .int .i64 p.it[k].2.2.2.2.2.2.2] 81
      replace hb := below_on hb hs
      replace B0 := B0.keep hs
      have hNX0 : w.heap.size < wr.heap.size + 1 := by have := B0.1; simpa using this
      cases k2 : (p.it[k].2.2.1 == 2)
      case true =>
        have HY : Hid ((p.it.take (k + 1)).all (fineItem p ds l) = true) := by show _ = _; rw [HAT.out, HI.out, fine_phan k2]; rfl
        go_wp2_with fail
        go_roundw
        case rel => exact ⟨k + 1, by omega, by go_num, HY.out, B0, hb⟩
        case measure => simp [intOf]; omega
      have hokx := HO.out.it _ (List.getElem_mem hlt)
      have hx9 := hokx.1
      have HFK := Lib.hid (HFS.out k hlt)
      have HPX : Hid (planX p p.it[k].1 = p.it[k]) := planX_at HFK.out hlt
      obtain ⟨_, _, _, _, hsf, _⟩ := HIT.out k hlt
      have K2 := Lib.hid k2
      obtain ⟨b0, b1, b2, b3, b4, b5, b6, bl⟩ := B0.seven
      go_wp2_with fail
      clear b0 b1 b2 b3 b4 b5 b6 bl t0 t1' t2' t3 t4 t5 t6 t7 hbi hs k2
      generalize (wr.alloc (.cells #[.string p.it[k].1, .string p.it[k].2.1, .int .i64 p.it[k].2.2.1, .int .i64 p.it[k].2.2.2.1, .int .i64 p.it[k].2.2.2.2.1, .int .i64 p.it[k].2.2.2.2.2.1, .int .i64 p.it[k].2.2.2.2.2.2.1, .int .i64 p.it[k].2.2.2.2.2.2.2] 81)) = wq at *
      generalize wr.heap.size = NX at *
      refine (implTaken_any ⟨⟨(some ⟨bi, oi, none⟩), p.it.length, c0⟩, ⟨a1, n1, c1⟩, ⟨a2, n2, c2⟩, ⟨a3, n3, c3⟩, ⟨a4, n4, c4⟩, ⟨a5, n5, c5⟩, ⟨a6, n6, c6⟩⟩ p _ _ _ _ _ _ ds l p.it[k].1 _ (HP.out.keep hb) HO.out (hds.keep hb) (hl.keep hb) t1 t2).mono ?_
      rintro e w6 ⟨A4, n4', c4', rfl, hM, hs⟩
      have hlo6 : NX < wq.heap.size := BX.1
      have hlo7 : w.heap.size < wq.heap.size := B0.1
      replace hb := below_on hb hs
      replace B0 := B0.keep hs
      replace BX := BX.keep hs
      clear hs
      cases g5 : (takenOn p ds l p.it[k].1).2
      case false =>
        have HF : Hid (isPlan p ds l = false) := isPlan_item hlt (fine_few K2.out g5)
        go_wp2_with fail
        go_ret
        exact ⟨ret_bool HF.out.symm, hb⟩
      obtain ⟨g, rfl, rfl, rfl, hA⟩ := hM g5
      have hg := hA.lt.1
      have HTD := Lib.hid (takenOn_days (item := p.it[k].1) t1 t2)
      have HCB := Lib.hid (fun kk jj ii => chg_bd (p := p) (ds := ds) (l := l) p.it[k].1 t1 t2 kk jj ii)
      have HCF := Lib.hid (fun j (h : j < (receiptFlows p p.it[k].1).length) => chgF_step p ds l p.it[k].1 (receiptFlows p p.it[k].1) j h)
      have HCY := Lib.hid (fun r kk (h : kk < l.length) (hi : isOf p.it[k].1 l[kk] = true) => chgG_yes p ds l p.it[k].1 r kk h hi)
      have HCN := Lib.hid (fun r kk (h : kk < l.length) (hi : isOf p.it[k].1 l[kk] = false) => chgG_no p ds l p.it[k].1 r kk h hi)
      have HC0 := Lib.hid (chg_none p ds l p.it[k].1 (receiptFlows p p.it[k].1))
      have HCA := Lib.hid (chg_all p ds l p.it[k].1 (receiptFlows p p.it[k].1))
      have HNN := Lib.hid (fun j (hj : j < 1000) => chg_net (p := p) (ds := ds) (l := l) p.it[k].1 t1 t2 j hj)
      have HNB := Lib.hid (fun j => netDay_bd (item := p.it[k].1) t1 t2 j)
      have HN0 := Lib.hid (netDay_zero p ds l p.it[k].1)
      have HFD := Lib.hid (fun j (hj : j < 1000) (h : ¬ p.it[k].2.2.2.2.2.2.1 ≤ netDay p ds l p.it[k].1 (j + 1)) => isPlan_item hlt (fine_day K2.out hj h))
      have HFY := Lib.hid (fun (hdd : ∀ dd < 1000, p.it[k].2.2.2.2.2.2.1 ≤ netDay p ds l p.it[k].1 (dd + 1)) => fine_yes (p := p) (ds := ds) (l := l) g5 hdd)
      have HRB := Lib.hid (rcTo_parts p p.it[k].1 HIP.out p.rc.length (Nat.le_refl _)).2.2
      have HRY := Lib.hid (receiptFlows_yes (item := p.it[k].1) HIP.out)
      have hrl := receiptFlows_len p p.it[k].1
      have hrcl := (isPlant_parts HIP.out).2.2.2.1
      have HCL := Lib.hid (fun evs => chg_len p ds l p.it[k].1 evs)
      clear hM g5
      generalize hlo : wq.heap.size = lo6 at *
      clear hlo
      have hA0 : NumRow w6 lo6 g 1000 1000 (negTo (takenOn p ds l p.it[k].1).1 0) := by rw [negTo_zero]; exact hA
      clear hA
      go_wp2_with fail
      go_loopw [90] (fun i wr => ∃ j : Nat, j ≤ 1000 ∧ i = .int .i64 j ∧ NumRow wr lo6 g 1000 1000 (negTo (takenOn p ds l p.it[k].1).1 j) ∧ BoxOf wr w.heap.size [.slice (some ⟨bi, oi, none⟩) p.it.length c0, .slice a1 n1 c1, .slice a2 n2 c2, .slice a3 n3 c3, .slice a4 n4 c4, .slice a5 n5 c5, .slice a6 n6 c6] ∧ BoxOf wr NX [.string p.it[k].1, .string p.it[k].2.1, .int .i64 p.it[k].2.2.1, .int .i64 p.it[k].2.2.2.1, .int .i64 p.it[k].2.2.2.2.1, .int .i64 p.it[k].2.2.2.2.2.1, .int .i64 p.it[k].2.2.2.2.2.2.1, .int .i64 p.it[k].2.2.2.2.2.2.2] ∧ Below w.heap.size w wr) (fun i _ => 1000 - (intOf i).toNat)
      case atStart => exact ⟨0, by omega, rfl, hA0, B0, BX, hb⟩
      case round =>
        clear hA0 B0 BX hb
        obtain ⟨j, hj, rfl, hA, B0, BX, hb⟩ := hrel
        have hTL := HTD.out.len
        by_cases hjl : j < 1000
        case pos =>
          have hjT : j < (takenOn p ds l p.it[k].1).1.length := by omega
          have HNS := Lib.hid (negTo_succ (takenOn p ds l p.it[k].1).1 j hjT)
          have hcv := HTD.out.cell j
          have cA := hA.cellN hjl
          rw [negTo_at _ _ hjT] at cA
          have fA := hA.frozen j
          have j1 : (j : Int) < 1000 := by omega
          generalize (takenOn p ds l p.it[k].1).1.getD j 0 = tv at *
          have hw : IntKind.i64.wrap (-tv) = -tv := IntWalk.i64_in _ (by omega)
          go_wp2_with fail
          go_roundw
          case rel => exact ⟨j + 1, by omega, by go_num, by rw [HNS.out]; exact hA.set j _, B0.off (by show g ≠ w.heap.size; omega) _, BX.off (by show g ≠ NX; omega) _, hb.setCell (p := ⟨g, j, none⟩) (by show w.heap.size ≤ g; omega) _⟩
          case measure => simp [intOf]; omega
        obtain rfl : j = 1000 := by omega
        have e9 : negTo (takenOn p ds l p.it[k].1).1 1000 = negL (takenOn p ds l p.it[k].1).1 := by rw [← hTL, negTo_all]
        rw [e9, ← HC0.out] at hA
        clear e9 hTL hj hjl
        obtain ⟨b0, b1, b2, b3, b4, b5, b6, bl⟩ := B0.seven
        have x0 := BX.2 0 _ rfl
        go_wp2_with fail
        clear b0 b1 b2 b3 b4 b5 b6 bl x0
        refine (implReceiptFlows_any ⟨⟨(some ⟨bi, oi, none⟩), p.it.length, c0⟩, ⟨a1, n1, c1⟩, ⟨a2, n2, c2⟩, ⟨a3, n3, c3⟩, ⟨a4, n4, c4⟩, ⟨a5, n5, c5⟩, ⟨a6, n6, c6⟩⟩ p p.it[k].1 _ (HP.out.keep hb) HO.out hx9).mono ?_
        rintro e w9 ⟨A7, q7, rfl, hfl, hs⟩
        have hglo : g < wr.heap.size := hA.lt.2
        replace hb := below_on hb hs
        replace B0 := B0.keep hs
        replace BX := BX.keep hs
        replace hA := hA.keep hs
        clear hs
        generalize wr.heap.size = lo7 at *
        generalize hFL : receiptFlows p p.it[k].1 = fl at *
        clear hFL
        go_wp2_with fail
        go_loopw [107] (fun i wr => ∃ j : Nat, j ≤ fl.length ∧ i = .int .i64 j ∧ NumRow wr lo6 g 1000 1000 (chgR p ds l p.it[k].1 ((evsR fl).take j ++ evsG p p.it[k].1 (l.take 0))) ∧ OwnRows flF 90 wr lo7 A7 fl.length q7 fl ∧ BoxOf wr w.heap.size [.slice (some ⟨bi, oi, none⟩) p.it.length c0, .slice a1 n1 c1, .slice a2 n2 c2, .slice a3 n3 c3, .slice a4 n4 c4, .slice a5 n5 c5, .slice a6 n6 c6] ∧ BoxOf wr NX [.string p.it[k].1, .string p.it[k].2.1, .int .i64 p.it[k].2.2.1, .int .i64 p.it[k].2.2.2.1, .int .i64 p.it[k].2.2.2.2.1, .int .i64 p.it[k].2.2.2.2.2.1, .int .i64 p.it[k].2.2.2.2.2.2.1, .int .i64 p.it[k].2.2.2.2.2.2.2] ∧ Below w.heap.size w wr) (fun i _ => fl.length - (intOf i).toNat)
        case atStart => exact ⟨0, by omega, rfl, hA, hfl, B0, BX, hb⟩
        case round =>
          clear hA hfl B0 BX hb
          obtain ⟨j, hj, rfl, hA, hfo, B0, BX, hb⟩ := hrel
          by_cases hjl : j < fl.length
          case pos =>
            obtain ⟨b, o, rfl, hbl, hc0, hc1⟩ := flow_at (hfo.rows (by omega)) hjl
            obtain ⟨⟨u1, u2⟩, u3, u4⟩ := HRB.out fl[j] (by rw [← HRY.out]; exact List.getElem_mem hjl)
            have HST := Lib.hid (HCF.out j hjl)
            obtain ⟨dn, hdn⟩ : ∃ dn : Nat, fl[j].1 = (dn : Int) := ⟨(fl[j].1).toNat, by omega⟩
            have hd1 : dn < 1000 := by omega
            have hd2 : (dn : Int) < (1000 : Int) := by omega
            have hmc := HCB.out 0 j dn
            generalize hM9 : chgR p ds l p.it[k].1 ((evsR fl).take j ++ evsG p p.it[k].1 (l.take 0)) = M at *
            clear hM9
            have cA := hA.cellN hd1
            generalize hma : M.getD dn 0 = mv at *
            have HYY : Hid (chgR p ds l p.it[k].1 ((evsR fl).take (j + 1) ++ evsG p p.it[k].1 (l.take 0)) = M.set dn (mv + fl[j].2)) := by
              show _ = _
              rw [HST.out]; unfold tkStep; simp only []; rw [hdn, Int.toNat_natCast, hma, Int.one_mul]
            have HMA := Lib.hid hma
            clear hma
            have hw1 : IntKind.i64.wrap (mv + fl[j].2) = mv + fl[j].2 := IntWalk.i64_in _ (by omega)
            rw [hdn] at hc0
            have hs := below_alloc wr (.cells #[.int .i64 (dn : Int), .int .i64 fl[j].2] 90)
            have y0 : (wr.alloc (.cells #[.int .i64 (dn : Int), .int .i64 fl[j].2] 90)).cell? ⟨wr.heap.size, 0, none⟩ = some (.int .i64 (dn : Int)) := by simp [go_sem]
            have y1 : (wr.alloc (.cells #[.int .i64 (dn : Int), .int .i64 fl[j].2] 90)).cell? ⟨wr.heap.size, 1, none⟩ = some (.int .i64 fl[j].2) := by simp [go_sem]
            replace hb := below_on hb hs
            replace B0 := B0.keep hs
            replace BX := BX.keep hs
            replace hfo := hfo.keep hs
            replace hA := hA.keep hs
            have cA2 := hA.cellN hd1
            have fA := hA.frozen dn
            rw [HMA.out] at cA2
            clear cA
            go_wp2_with fail
            clear hc0 hc1 hbl hs
            generalize (wr.alloc (.cells #[.int .i64 (dn : Int), .int .i64 fl[j].2] 90)) = w11 at *
            generalize wr.heap.size = NF at *
            go_still_tail 9, (by kernel_rfl)
            change wpList _ _ _ _ _ w11.drew
            replace hA := hA.keep (Below.refl w11.heap.size w11).drew
            replace hfo := hfo.keep (Below.refl w11.heap.size w11).drew
            replace B0 := B0.keep (Below.refl w11.heap.size w11).drew
            replace BX := BX.keep (Below.refl w11.heap.size w11).drew
            replace cA2 : w11.drew.cell? ⟨g, dn, none⟩ = some (.int .i64 mv) := cA2
            replace fA : w11.drew.frozen? ⟨g, dn, none⟩ = false := fA
            replace hb := hb.drew
            clear y0 y1
            generalize w11.drew = W8 at *
            go_wp2_with fail
            go_roundw
            case rel => exact ⟨j + 1, by omega, by go_num, by rw [HYY.out]; exact hA.set dn _, hfo.far (p := ⟨g, dn, none⟩) (by show g < lo7; omega) _, B0.off (by show g ≠ w.heap.size; omega) _, BX.off (by show g ≠ NX; omega) _, hb.setCell (p := ⟨g, dn, none⟩) (by show w.heap.size ≤ g; omega) _⟩
            case measure => simp [intOf]; omega
          obtain rfl : j = fl.length := by omega
          clear hfo hj hjl
          go_wp2_with fail
          go_loopw [123] (fun i wr => ∃ j : Nat, j ≤ l.length ∧ i = .int .i64 j ∧ NumRow wr lo6 g 1000 1000 (chgR p ds l p.it[k].1 ((evsR fl).take fl.length ++ evsG p p.it[k].1 (l.take j))) ∧ BoxOf wr w.heap.size [.slice (some ⟨bi, oi, none⟩) p.it.length c0, .slice a1 n1 c1, .slice a2 n2 c2, .slice a3 n3 c3, .slice a4 n4 c4, .slice a5 n5 c5, .slice a6 n6 c6] ∧ BoxOf wr NX [.string p.it[k].1, .string p.it[k].2.1, .int .i64 p.it[k].2.2.1, .int .i64 p.it[k].2.2.2.1, .int .i64 p.it[k].2.2.2.2.1, .int .i64 p.it[k].2.2.2.2.2.1, .int .i64 p.it[k].2.2.2.2.2.2.1, .int .i64 p.it[k].2.2.2.2.2.2.2] ∧ Below w.heap.size w wr) (fun i _ => l.length - (intOf i).toNat)
          case atStart => exact ⟨0, by omega, rfl, hA, B0, BX, hb⟩
          case round =>
            clear hA B0 BX hb
            obtain ⟨j, hj, rfl, hA, B0, BX, hb⟩ := hrel
            by_cases hjl : j < l.length
            case pos =>
              obtain ⟨z1, z2, ⟨z3, z4⟩, ⟨z5, z6⟩, z7, z8⟩ := HPP.out j hjl
              obtain ⟨b, o, rfl, hbl, hc0, hc1, hc2, hc3, hc4⟩ := planned_at (hl.keep hb) hjl
              obtain ⟨dn, hdn⟩ : ∃ dn : Nat, l[j].2.2.2.1 = (dn : Int) := ⟨(l[j].2.2.2.1).toNat, by omega⟩
              have hd1 : dn < 1000 := by omega
              have hd2 : (dn : Int) < (1000 : Int) := by omega
              have HDN := Lib.hid hdn
              rw [hdn] at hc3
              have hs := below_alloc wr (.cells #[.string l[j].1, .int .i64 l[j].2.1, .int .i64 l[j].2.2.1, .int .i64 (dn : Int), .bool l[j].2.2.2.2] 93)
              have BO : BoxOf (wr.alloc (.cells #[.string l[j].1, .int .i64 l[j].2.1, .int .i64 l[j].2.2.1, .int .i64 (dn : Int), .bool l[j].2.2.2.2] 93)) wr.heap.size [.string l[j].1, .int .i64 l[j].2.1, .int .i64 l[j].2.2.1, .int .i64 (dn : Int), .bool l[j].2.2.2.2] := boxOf_alloc wr #[.string l[j].1, .int .i64 l[j].2.1, .int .i64 l[j].2.2.1, .int .i64 (dn : Int), .bool l[j].2.2.2.2] 93
              replace hb := below_on hb hs
              replace B0 := B0.keep hs
              replace BX := BX.keep hs
              have hgo : g < wr.heap.size := hA.lt.2
              replace hA := hA.keep hs
              have x0 := BX.2 0 _ rfl
              cases heq : (l[j].1.toList == p.it[k].1.toList)
              case false =>
                have HNO := Lib.hid (HCN.out ((evsR fl).take fl.length) j hjl heq)
                go_wp2_with fail
                go_roundw
                case rel => exact ⟨j + 1, by omega, by go_num, by rw [HNO.out]; exact hA, B0, BX, hb⟩
                case measure => simp [intOf]; omega
              have HST := Lib.hid (HCY.out ((evsR fl).take fl.length) j hjl heq)
              have hmc := HCB.out j fl.length dn
              have hgd := netOf_bd p.it[k] l[j].2.1 (by omega)
              generalize hM9 : chgR p ds l p.it[k].1 ((evsR fl).take fl.length ++ evsG p p.it[k].1 (l.take j)) = M at *
              clear hM9
              generalize hma : M.getD dn 0 = mv at *
              have HMA := Lib.hid hma
              have HYY : Hid (chgR p ds l p.it[k].1 ((evsR fl).take fl.length ++ evsG p p.it[k].1 (l.take (j + 1))) = M.set dn (mv + (netOf p.it[k] l[j].2.1).1)) := by
                show _ = _
                rw [HST.out]; unfold tkStep goodV goodOf; simp only []; rw [HPX.out, hdn, Int.toNat_natCast, hma, Int.one_mul]
              clear hma
              have x1 := BX.2 1 _ rfl
              have x2 := BX.2 2 _ rfl
              have x3 := BX.2 3 _ rfl
              have x4 := BX.2 4 _ rfl
              have x5 := BX.2 5 _ rfl
              have x6 := BX.2 6 _ rfl
              have x7 := BX.2 7 _ rfl
              go_wp2_with fail
              generalize (wr.alloc (.cells #[.string l[j].1, .int .i64 l[j].2.1, .int .i64 l[j].2.2.1, .int .i64 (dn : Int), .bool l[j].2.2.2.2] 93)) = w11 at *
              generalize wr.heap.size = NF at *
              clear hc0 hc1 hc2 hc3 hc4 hbl hs x0 x1 x2 x3 x4 x5 x6 x7
              refine (implNetOf_any p.it[k] _ _ hokx).mono ?_
              rintro e w12 ⟨rfl, hs⟩
              replace hb := below_on hb hs
              replace B0 := B0.keep hs
              replace BX := BX.keep hs
              replace BO := BO.keep hs
              replace hA := hA.keep hs
              clear hs
              generalize netOf p.it[k] l[j].2.1 = gg at *
              have hw1 : IntKind.i64.wrap (mv + gg.1) = mv + gg.1 := IntWalk.i64_in _ (by omega)
              have cA2 := hA.cellN hd1
              rw [HMA.out] at cA2
              have fA := hA.frozen dn
              have y3 := BO.2 3 _ rfl
              go_wp2_with fail
              go_roundw
              case rel => exact ⟨j + 1, by omega, by go_num, by rw [HYY.out]; exact hA.set dn _, B0.off (by show g ≠ w.heap.size; omega) _, BX.off (by show g ≠ NX; omega) _, hb.setCell (p := ⟨g, dn, none⟩) (by show w.heap.size ≤ g; omega) _⟩
              case measure => simp [intOf]; omega
            obtain rfl : j = l.length := by omega
            rw [HCA.out] at hA
            obtain ⟨b0, b1, b2, b3, b4, b5, b6, bl⟩ := B0.seven
            have x0 := BX.2 0 _ rfl
            clear hj hjl
            go_wp2_with fail
            clear b0 b1 b2 b3 b4 b5 b6 bl x0
            refine (implStockOf_any ⟨⟨(some ⟨bi, oi, none⟩), p.it.length, c0⟩, ⟨a1, n1, c1⟩, ⟨a2, n2, c2⟩, ⟨a3, n3, c3⟩, ⟨a4, n4, c4⟩, ⟨a5, n5, c5⟩, ⟨a6, n6, c6⟩⟩ p p.it[k].1 _ (HP.out.keep hb) HO.out hx9).mono ?_
            rintro e w13 ⟨rfl, hs⟩
            replace hb := below_on hb hs
            replace B0 := B0.keep hs
            replace BX := BX.keep hs
            replace hA := hA.keep hs
            clear hs
            rw [← HN0.out]
            generalize chgR p ds l p.it[k].1 (evsR fl ++ evsG p p.it[k].1 l) = C at *
            have hCl : C.length = 1000 := hA.len
            go_wp2_with fail
            go_loopw [22, 154] (fun s i wi => ∃ j : Nat, j ≤ 1000 ∧ i = .int .i64 j ∧ s = .int .i64 (netDay p ds l p.it[k].1 j) ∧ Hid (∀ j', j' < j → p.it[k].2.2.2.2.2.2.1 ≤ netDay p ds l p.it[k].1 (j' + 1)) ∧ Below w13.heap.size w13 wi) (fun _ i _ => 1000 - (intOf i).toNat)
            case atStart => exact ⟨0, by omega, rfl, rfl, fun j' h => absurd h (by omega), Below.refl _ _⟩
            case round =>
              obtain ⟨j, hj, rfl, rfl, HJ, hbw⟩ := hrel
              replace hA := hA.keep hbw
              replace BX := BX.keep hbw
              replace B0 := B0.keep hbw
              replace hb := below_on hb hbw
              by_cases hjl : j < 1000
              case neg =>
                obtain rfl : j = 1000 := by omega
                have HY : Hid ((p.it.take (k + 1)).all (fineItem p ds l) = true) := by show _ = _; rw [HAT.out, HI.out, HFY.out (fun d hd => HJ.out d hd)]; rfl
                go_wp2_with fail
                go_roundw
                case rel => exact ⟨k + 1, by omega, by go_num, HY.out, B0, hb⟩
                case measure => simp [intOf]; omega
              have HS := Lib.hid (HNN.out j hjl)
              have hn1 := HNB.out j
              have hn2 := HNB.out (j + 1)
              rw [HS.out] at hn2
              have cA := hA.cellN hjl
              have j1 : (j : Int) < 1000 := by omega
              have hsv := HFD.out j hjl
              rw [HS.out] at hsv
              have HSV := Lib.hid hsv
              clear hsv
              generalize netDay p ds l p.it[k].1 j = nj at *
              generalize C.getD j 0 = cv at *
              have hw1 : IntKind.i64.wrap (nj + cv) = nj + cv := IntWalk.i64_in _ (by omega)
              have x6 := BX.2 6 _ rfl
              by_cases hs : nj + cv < p.it[k].2.2.2.2.2.2.1
              · have HF := Lib.hid (HSV.out (by omega))
                go_wp2_with fail
                go_ret
                exact ⟨ret_bool HF.out.symm, hb⟩
              · have HJ2 : Hid (∀ j', j' < j + 1 → p.it[k].2.2.2.2.2.2.1 ≤ netDay p ds l p.it[k].1 (j' + 1)) := fun j' h => by
                  rcases Nat.lt_or_ge j' j with h1 | h1
                  · exact HJ.out j' h1
                  · obtain rfl : j' = j := by omega
                    rw [HS.out]; omega
                go_wp2_with fail
                go_roundw
                case rel => exact ⟨j + 1, by omega, by go_num, by rw [HS.out], HJ2.out, hbw⟩
                case measure => simp [intOf]; omega
end Go.Proofs.YtlnkofnfgemfdaaGreat
