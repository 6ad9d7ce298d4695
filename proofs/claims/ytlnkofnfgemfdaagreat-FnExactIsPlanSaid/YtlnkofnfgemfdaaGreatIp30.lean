/- Part 30 of the texts of this claim: The walk of l18Come. -/
import Derived.Test.YtlnkofnfgemfdaaGreatIp27
import Derived.Test.YtlnkofnfgemfdaaGreatIp28
/- The walk of l18Come. -/
namespace Go.Proofs.YtlnkofnfgemfdaaGreat
open Go.RowKit
def comeEvs (p : Pt) (l : List Pl) (item : ByteArray) : List (Int × Int × Int) := evsR (receiptFlows p item) ++ evsG p item l
theorem evsR_len (l : List Fl) : (evsR l).length = l.length := by simp [evsR]
theorem comeR_step (fl : List Fl) (k : Nat) (h : k < fl.length) : tkTo ((evsR fl).take (k + 1)) = tkStep (tkTo ((evsR fl).take k)) (1, fl[k].2, fl[k].1) := by
  unfold evsR
  rw [map_take1 _ _ _ h, tkTo_snoc]
theorem comeR_all (p : Pt) (l : List Pl) (item : ByteArray) (fl : List Fl) : tkTo ((evsR fl).take fl.length) = tkTo (evsR fl ++ evsG p item (l.take 0)) := by
  rw [List.take_of_length_le (by rw [evsR_len]; omega)]; simp [evsG]
theorem evsG_take (p : Pt) (item : ByteArray) (l : List Pl) (k : Nat) (h : k < l.length) : evsG p item (l.take (k + 1)) = evsG p item (l.take k) ++ (if isOf item l[k] = true then [goodV p item l[k]] else []) := by
  unfold evsG
  rw [filter_take1 _ _ _ h, List.map_append]
  split <;> rfl
theorem comeG_yes (p : Pt) (item : ByteArray) (fl : List Fl) (l : List Pl) (k : Nat) (h : k < l.length) (hi : isOf item l[k] = true) : tkTo (evsR fl ++ evsG p item (l.take (k + 1))) = tkStep (tkTo (evsR fl ++ evsG p item (l.take k))) (goodV p item l[k]) := by
  rw [evsG_take _ _ _ _ h, if_pos hi, ← List.append_assoc, tkTo_snoc]
theorem comeG_no (p : Pt) (item : ByteArray) (fl : List Fl) (l : List Pl) (k : Nat) (h : k < l.length) (hi : isOf item l[k] = false) : tkTo (evsR fl ++ evsG p item (l.take (k + 1))) = tkTo (evsR fl ++ evsG p item (l.take k)) := by
  rw [evsG_take _ _ _ _ h, if_neg (by rw [hi]; decide), List.append_nil]
theorem comeG_all (p : Pt) (item : ByteArray) (l : List Pl) : tkTo (evsR (receiptFlows p item) ++ evsG p item (l.take l.length)) = comeOn p l item := by rw [List.take_length]; rfl
section
variable {p : Pt} {l : List Pl} {item : ByteArray} (hp : arePlanned p l = true)
include hp
theorem comeR_days (k : Nat) : Days (tkTo ((evsR (receiptFlows p item)).take k)) 60000000000000000 := by
  refine (tkTo_days (fun v hv => evsR_ok p item (arePlanned_parts hp).1 v (List.mem_of_mem_take hv))).mono ?_
  have := receiptFlows_len p item
  rw [List.length_take, evsR_len]
  omega
theorem comeG_days (k : Nat) : Days (tkTo (evsR (receiptFlows p item) ++ evsG p item (l.take k))) 60000000000000000 := by
  refine (tkTo_days (fun v hv => ?_)).mono ?_
  · rcases List.mem_append.1 hv with h | h
    · exact evsR_ok p item (arePlanned_parts hp).1 v h
    · refine evsG_ok p l item hp v ?_
      unfold evsG at h ⊢
      obtain ⟨o, ho, rfl⟩ := List.mem_map.1 h
      obtain ⟨h1, h2⟩ := List.mem_filter.1 ho
      exact List.mem_map.2 ⟨o, List.mem_filter.2 ⟨List.mem_of_mem_take h1, h2⟩, rfl⟩
  · have := receiptFlows_len p item
    have := (arePlanned_parts hp).2.1
    have h3 : (evsG p item (l.take k)).length ≤ l.length := by
      unfold evsG
      rw [List.length_map]
      exact Nat.le_trans (List.length_filter_le _ _) (by rw [List.length_take]; omega)
    rw [List.length_append, evsR_len]
    omega
theorem comeOn_days : Days (comeOn p l item) 60000000000000000 := by
  rw [← comeG_all]; exact comeG_days hp _
end
set_option maxRecDepth 100000 in
set_option maxHeartbeats 8000000 in
theorem specCome_any (r : PtR) (p : Pt) (B : Option Addr) (m d : Nat) (l : List Pl) (item : ByteArray) (w : World) (hp : PlantIn w r p) (hok : okPt p) (hs9 : item.size ≤ 9223372036854775807) (hl : PlannedsIn w B m l) (hpl : arePlanned p l = true) (h0 : 0 ≤ findIt p.it item) :
    Calls Tryz.prog 82 #[.agg #[.slice r.i.a r.i.n r.i.c, .slice r.l.a r.l.n r.l.c, .slice r.w.a r.w.n r.w.c, .slice r.e.a r.e.n r.e.c, .slice r.p.a r.p.n r.p.c, .slice r.s.a r.s.n r.s.c, .slice r.q.a r.q.n r.q.c], .slice B m d, .string item] w fun e w' => ∃ g, e = .returned (.slice (some ⟨g, 0, none⟩) 1000 1000) ∧ NumRow w' w.heap.size g 1000 1000 (comeOn p l item) ∧ Below w.heap.size w w' := by
  have HER := Lib.hid (fun k => comeR_days (item := item) hpl k)
  have HEG := Lib.hid (fun k => comeG_days (item := item) hpl k)
  have HPP := Lib.hid (arePlanned_parts hpl).2.2
  have hip := (arePlanned_parts hpl).1
  have HIP := Lib.hid hip
  have HR1 := Lib.hid (fun k (h : k < (receiptFlows p item).length) => comeR_step (receiptFlows p item) k h)
  have HR2 := Lib.hid (comeR_all p l item (receiptFlows p item))
  have HG1 := Lib.hid (fun k (h : k < l.length) hi => comeG_yes p item (receiptFlows p item) l k h hi)
  have HG2 := Lib.hid (fun k (h : k < l.length) hi => comeG_no p item (receiptFlows p item) l k h hi)
  have HG3 := Lib.hid (comeG_all p item l)
  have HRB := Lib.hid (rcTo_parts p item hip p.rc.length (Nat.le_refl _)).2.2
  have hrl := receiptFlows_len p item
  have HRY := Lib.hid (receiptFlows_yes (item := item) hip)
  have h500 := (arePlanned_parts hpl).2.1
  have hit0 := Lib.hid (fun q (hq : q < p.it.length) => isPlant_item hip hq)
  have HO := Lib.hid hok
  have HRCL := Lib.hid (isPlant_parts hip).2.2.2.1
  clear hpl hip hok
  have hnl := hl.1
  subst hnl
  obtain ⟨⟨a0, n0, c0⟩, ⟨a1, n1, c1⟩, ⟨a2, n2, c2⟩, ⟨a3, n3, c3⟩, ⟨a4, n4, c4⟩, ⟨a5, n5, c5⟩, ⟨a6, n6, c6⟩⟩ := r
  have HP := Lib.hid hp
  have HQ0 := Lib.hid hp.it
  dsimp only at HQ0 ⊢
  clear hp
  have hn0 : n0 = p.it.length := HQ0.out.1
  subst hn0
  have hb := below_alloc w (.cells #[.slice a0 p.it.length c0, .slice a1 n1 c1, .slice a2 n2 c2, .slice a3 n3 c3, .slice a4 n4 c4, .slice a5 n5 c5, .slice a6 n6 c6] 48)
  have B0 : BoxOf (w.alloc (.cells #[.slice a0 p.it.length c0, .slice a1 n1 c1, .slice a2 n2 c2, .slice a3 n3 c3, .slice a4 n4 c4, .slice a5 n5 c5, .slice a6 n6 c6] 48)) w.heap.size [.slice a0 p.it.length c0, .slice a1 n1 c1, .slice a2 n2 c2, .slice a3 n3 c3, .slice a4 n4 c4, .slice a5 n5 c5, .slice a6 n6 c6] := boxOf_alloc w #[.slice a0 p.it.length c0, .slice a1 n1 c1, .slice a2 n2 c2, .slice a3 n3 c3, .slice a4 n4 c4, .slice a5 n5 c5, .slice a6 n6 c6] 48
  have hz : (w.alloc (.cells #[.slice a0 p.it.length c0, .slice a1 n1 c1, .slice a2 n2 c2, .slice a3 n3 c3, .slice a4 n4 c4, .slice a5 n5 c5, .slice a6 n6 c6] 48)).heap.size = w.heap.size + 1 := by simp
  go_enter Tryz.func82, Tryz.ntmps82
  go_wp2_with (at_make; refine wpList_make_nums rfl _ _ rfl w.heap.size 1000 rfl rfl rfl rfl (by omega) (by simp) ?_; intro w5 hA hA2 hA3; have B1 := B0.keep hA2; obtain ⟨b0, b1, b2, b3, b4, b5, b6, bl⟩ := B1.seven)
  have hb1 := below_on hb hA2
  have hA1 : NumRow w5 w.heap.size (w.heap.size + 1) 1000 1000 (tkTo ((evsR (receiptFlows p item)).take 0)) := by rw [hz] at hA; exact hA
  have hgn : w.heap.size + 1 < w5.heap.size := by rw [hz] at hA3; exact hA3
  clear hA hA2 hA3 hb B0 hz b0 b1 b2 b3 b4 b5 b6 bl
  refine (specReceiptFlows_any ⟨⟨a0, p.it.length, c0⟩, ⟨a1, n1, c1⟩, ⟨a2, n2, c2⟩, ⟨a3, n3, c3⟩, ⟨a4, n4, c4⟩, ⟨a5, n5, c5⟩, ⟨a6, n6, c6⟩⟩ p item _ (HP.out.keep hb1) HO.out hs9).mono ?_
  rintro e w6 ⟨A6, q6, rfl, hfl, hs⟩
  replace hb1 := below_on hb1 hs
  replace B1 := B1.keep hs
  replace hA1 := hA1.keep hs
  have hA6 := hfl.at_
  have hflo : w5.heap.size ≤ w6.heap.size := hs.size
  clear hs hfl
  generalize hgi : w.heap.size + 1 = gi at *
  have hfo := hA6.own
  clear hA6
  generalize w5.heap.size = lo6 at *
  generalize hFL : receiptFlows p item = fl at *
  have HFL := Lib.hid hFL
  clear hFL
  go_wp2_with fail
  go_loopw [9] (fun i wr => ∃ k : Nat, k ≤ fl.length ∧ i = .int .i64 k ∧ NumRow wr w.heap.size gi 1000 1000 (tkTo ((evsR fl).take k)) ∧ OwnRows flF 90 wr lo6 A6 fl.length q6 fl ∧ BoxOf wr w.heap.size [.slice a0 p.it.length c0, .slice a1 n1 c1, .slice a2 n2 c2, .slice a3 n3 c3, .slice a4 n4 c4, .slice a5 n5 c5, .slice a6 n6 c6] ∧ Below w.heap.size w wr) (fun i _ => fl.length - (intOf i).toNat)
  case atStart => exact ⟨0, by omega, rfl, hA1, hfo, B1, hb1⟩
  case round =>
    clear hA1 hfo B1 hb1
    obtain ⟨k, hk, rfl, hA, hfo, B0, hb⟩ := hrel
    by_cases hlt : k < fl.length
    case neg =>
      obtain rfl : k = fl.length := by omega
      rw [HR2.out] at hA
      clear hfo
      go_wp2_with fail
      go_loopw [10] (fun i wr => ∃ k : Nat, k ≤ l.length ∧ i = .int .i64 k ∧ NumRow wr w.heap.size gi 1000 1000 (tkTo (evsR fl ++ evsG p item (l.take k))) ∧ BoxOf wr w.heap.size [.slice a0 p.it.length c0, .slice a1 n1 c1, .slice a2 n2 c2, .slice a3 n3 c3, .slice a4 n4 c4, .slice a5 n5 c5, .slice a6 n6 c6] ∧ Below w.heap.size w wr) (fun i _ => l.length - (intOf i).toNat)
      case atStart => exact ⟨0, by omega, rfl, hA, B0, hb⟩
      case round =>
        clear hA B0 hb
        obtain ⟨k, hk, rfl, hA, B0, hb⟩ := hrel
        by_cases hlt : k < l.length
        case neg =>
          obtain rfl : k = l.length := by omega
          rw [HG3.out] at hA
          go_wp2_with fail
          go_ret
          exact ⟨gi, rfl, hA, hb⟩
        obtain ⟨b, o, rfl, hbl, hc0, hc1, hc2, hc3, hc4⟩ := planned_at (hl.keep hb) hlt
        cases heq : (l[k].1.toList == item.toList)
        case false =>
          have HNO := Lib.hid (HG2.out k hlt heq)
          go_wp2_with fail
          go_roundw
          case rel => exact ⟨k + 1, by omega, by go_num, by rw [HNO.out]; exact hA, B0, hb⟩
          case measure => simp [intOf]; omega
        have HST := Lib.hid (HG1.out k hlt heq)
        have hdy := HEG.out k
        obtain ⟨z1, z2, ⟨z3, z4⟩, ⟨z5, z6⟩, z7, z8⟩ := HPP.out k hlt
        generalize hMM : tkTo (evsR fl ++ evsG p item (l.take k)) = M at *
        clear hMM
        obtain ⟨f1, f2⟩ := findIt_bd p.it item
        obtain ⟨qn, hqn⟩ : ∃ qn : Nat, findIt p.it item = (qn : Int) := ⟨(findIt p.it item).toNat, by omega⟩
        have q1 : qn < p.it.length := by omega
        have q2 : (qn : Int) < (p.it.length : Int) := by omega
        have q3 : (0 : Int) ≤ (qn : Int) := by omega
        have HQN := Lib.hid hqn
        have HPX := Lib.hid (planX_at hqn q1)
        have hokx := HO.out.it _ (List.getElem_mem q1)
        clear hqn f1 f2
        obtain ⟨bi, oi, hae, hbi, t0, t1, t2, t3, t4, t5, t6, t7⟩ := item_at (HQ0.out.keep hb) q1
        have HIT := Lib.hid (HQ0.out.keep hb)
        obtain ⟨b0, b1, b2, b3, b4, b5, b6, bl⟩ := B0.seven
        subst hae
        go_wp2_with fail
        refine wp_region_held_drew (S := (fun w' => w'.cell? ⟨w.heap.size, 0, none⟩ = some (.slice (some ⟨bi, oi, none⟩) p.it.length c0) ∧ w'.cell? ⟨bi, oi + qn * 8, none⟩ = some (.string p.it[qn].1) ∧ w'.cell? ⟨bi, oi + qn * 8 + 1, none⟩ = some (.string p.it[qn].2.1) ∧ w'.cell? ⟨bi, oi + qn * 8 + 2, none⟩ = some (.int .i64 p.it[qn].2.2.1) ∧ w'.cell? ⟨bi, oi + qn * 8 + 3, none⟩ = some (.int .i64 p.it[qn].2.2.2.1) ∧ w'.cell? ⟨bi, oi + qn * 8 + 4, none⟩ = some (.int .i64 p.it[qn].2.2.2.2.1) ∧ w'.cell? ⟨bi, oi + qn * 8 + 5, none⟩ = some (.int .i64 p.it[qn].2.2.2.2.2.1) ∧ w'.cell? ⟨bi, oi + qn * 8 + 6, none⟩ = some (.int .i64 p.it[qn].2.2.2.2.2.2.1) ∧ w'.cell? ⟨bi, oi + qn * 8 + 7, none⟩ = some (.int .i64 p.it[qn].2.2.2.2.2.2.2) ∧ w'.cell? ⟨b, o + k * 5 + 1, none⟩ = some (.int .i64 l[k].2.1) ∧ w.heap.size < w'.heap.size ∧ bi < w'.heap.size ∧ b < w'.heap.size ∧ Below wr.heap.size wr w')) (by kernel_rfl) ⟨b0, t0, t1, t2, t3, t4, t5, t6, t7, hc1, bl, hbi, hbl, (Below.refl _ _).drew⟩ (fun hHeld => ?_)
        refine held_on 0 (some 58) rfl rfl (by kernel_rfl) (by kernel_rfl) (by kernel_rfl) (fun _ _ _ h => h) (by rfl) hHeld (v := ?v1) ?y1 ?r1
        case y1 => intro w hSw; (try dsimp only at hSw); go_simp; (try with_reducible rfl)
        try simp only [Act.put, List.setIfInBounds_toArray, List.set_cons_zero, List.set_cons_succ]
        refine held_on 1 (some 59) rfl rfl (by kernel_rfl) (by kernel_rfl) (by kernel_rfl) (fun _ _ _ h => h) (by rfl) hHeld (v := ?v2) ?y2 ?r2
        case y2 => intro w hSw; (try dsimp only at hSw); go_simp; (try with_reducible rfl)
        try simp only [Act.put, List.setIfInBounds_toArray, List.set_cons_zero, List.set_cons_succ]
        refine held_on 2 (some 60) rfl rfl (by kernel_rfl) (by kernel_rfl) (by kernel_rfl) (fun _ _ _ h => h) (by rfl) hHeld (v := ?v3) ?y3 ?r3
        case y3 => intro w hSw; (try dsimp only at hSw); go_simp; (try with_reducible rfl)
        try simp only [Act.put, List.setIfInBounds_toArray, List.set_cons_zero, List.set_cons_succ]
        refine held_on 3 (some 61) rfl rfl (by kernel_rfl) (by kernel_rfl) (by kernel_rfl) (fun _ _ _ h => h) (by rfl) hHeld (v := ?v4) ?y4 ?r4
        case y4 => intro w hSw; (try dsimp only at hSw); go_simp; (try with_reducible rfl)
        try simp only [Act.put, List.setIfInBounds_toArray, List.set_cons_zero, List.set_cons_succ]
        refine held_on 4 (some 62) rfl rfl (by kernel_rfl) (by kernel_rfl) (by kernel_rfl) (fun _ _ _ h => h) (by rfl) hHeld (v := ?v5) ?y5 ?r5
        case y5 => intro w hSw; (try dsimp only at hSw); go_simp; (try with_reducible rfl)
        try simp only [Act.put, List.setIfInBounds_toArray, List.set_cons_zero, List.set_cons_succ]
        refine held_on 8 (some 66) rfl rfl (by kernel_rfl) (by kernel_rfl) (by kernel_rfl) (fun _ _ _ h => h) (by rfl) hHeld (v := ?v6) ?y6 ?r6
        case y6 => intro w hSw; (try dsimp only at hSw); go_simp; (try with_reducible rfl)
        try simp only [Act.put, List.setIfInBounds_toArray, List.set_cons_zero, List.set_cons_succ]
        refine held_on 9 (some 67) rfl rfl (by kernel_rfl) (by kernel_rfl) (by kernel_rfl) (fun _ _ _ h => h) (by rfl) hHeld (v := ?v7) ?y7 ?r7
        case y7 => intro w hSw; (try dsimp only at hSw); go_simp; (try with_reducible rfl)
        try simp only [Act.put, List.setIfInBounds_toArray, List.set_cons_zero, List.set_cons_succ]
        refine held_on 10 (some 68) rfl rfl (by kernel_rfl) (by kernel_rfl) (by kernel_rfl) (fun _ _ _ h => h) (by rfl) hHeld (v := ?v8) ?y8 ?r8
        case y8 => intro w hSw; (try dsimp only at hSw); go_simp; (try with_reducible rfl)
        try simp only [Act.put, List.setIfInBounds_toArray, List.set_cons_zero, List.set_cons_succ]
        refine held_on 11 (some 69) rfl rfl (by kernel_rfl) (by kernel_rfl) (by kernel_rfl) (fun _ _ _ h => h) (by rfl) hHeld (v := ?v9) ?y9 ?r9
        case y9 => intro w hSw; (try dsimp only at hSw); go_simp; (try with_reducible rfl)
        try simp only [Act.put, List.setIfInBounds_toArray, List.set_cons_zero, List.set_cons_succ]
        refine held_on 12 (some 70) rfl rfl (by kernel_rfl) (by kernel_rfl) (by kernel_rfl) (fun _ _ _ h => h) (by rfl) hHeld (v := ?v10) ?y10 ?r10
        case y10 => intro w hSw; (try dsimp only at hSw); go_simp; (try with_reducible rfl)
        try simp only [Act.put, List.setIfInBounds_toArray, List.set_cons_zero, List.set_cons_succ]
        refine wpAnyH_ready (rs := [5]) (by kernel_rfl) (by simp) ?_
        refine AllReadyH.cons rfl (fun K hK => ?_) AllReadyH.nil
        go_simp
        go_at_call 37; refine (specFindItem_any _ _ _ p.it _ _ (HIT.out.keep (by obtain ⟨y_c0, y_t0, y_t1, y_t2, y_t3, y_t4, y_t5, y_t6, y_t7, y_q, y_n, y_i, y_b, y_R⟩ := hHeld; exact y_R))).mono ?_; rintro e w6 ⟨rfl, rfl⟩; rw [HQN.out]; go_simp
        refine hK.out _ _ ?_ (fun hHeld => ?_)
        · exact hHeld
        clear hK K
        try simp only [Act.put, List.setIfInBounds_toArray, List.set_cons_zero, List.set_cons_succ]
        refine held_on 6 (some 64) rfl rfl (by kernel_rfl) (by kernel_rfl) (by kernel_rfl) (fun _ _ _ h => h) (by rfl) hHeld (v := ?v11) ?y11 ?r11
        case y11 => intro w hSw; (try dsimp only at hSw); go_simp; (try with_reducible rfl)
        try simp only [Act.put, List.setIfInBounds_toArray, List.set_cons_zero, List.set_cons_succ]
        refine held_on 7 (some 65) rfl rfl (by kernel_rfl) (by kernel_rfl) (by kernel_rfl) (fun _ _ _ h => h) (by rfl) hHeld (v := ?v12) ?y12 ?r12
        case y12 => intro w hSw; (try dsimp only at hSw); go_simp; (try with_reducible rfl)
        try simp only [Act.put, List.setIfInBounds_toArray, List.set_cons_zero, List.set_cons_succ]
        refine wpAnyH_ready (rs := [13]) (by kernel_rfl) (by simp) ?_
        refine AllReadyH.cons rfl (fun K hK => ?_) AllReadyH.nil
        go_simp
        go_at_call 136; refine (specNetOf_any p.it[qn] _ _ hokx).mono ?_; rintro e w7 ⟨rfl, hb3⟩; go_simp
        refine hK.out _ _ ?_ (fun hHeld => ?_)
        · obtain ⟨y_c0, y_t0, y_t1, y_t2, y_t3, y_t4, y_t5, y_t6, y_t7, y_q, y_n, y_i, y_b, y_R⟩ := hHeld; exact ⟨(hb3.cell y_n).trans y_c0, (hb3.cell y_i).trans y_t0, (hb3.cell y_i).trans y_t1, (hb3.cell y_i).trans y_t2, (hb3.cell y_i).trans y_t3, (hb3.cell y_i).trans y_t4, (hb3.cell y_i).trans y_t5, (hb3.cell y_i).trans y_t6, (hb3.cell y_i).trans y_t7, (hb3.cell y_b).trans y_q, Nat.lt_of_lt_of_le y_n hb3.size, Nat.lt_of_lt_of_le y_i hb3.size, Nat.lt_of_lt_of_le y_b hb3.size, below_on y_R hb3⟩
        clear hK K
        try simp only [Act.put, List.setIfInBounds_toArray, List.set_cons_zero, List.set_cons_succ]
        refine held_on 14 (some 57) rfl rfl (by kernel_rfl) (by kernel_rfl) (by kernel_rfl) (fun _ _ _ h => h) (by rfl) hHeld (v := ?v13) ?y13 ?r13
        case y13 => intro w hSw; (try dsimp only at hSw); go_simp; (try with_reducible rfl)
        try simp only [Act.put, List.setIfInBounds_toArray, List.set_cons_zero, List.set_cons_succ]
        refine held_on 15 (some 72) rfl rfl (by kernel_rfl) (by kernel_rfl) (by kernel_rfl) (fun _ _ _ h => h) (by rfl) hHeld (v := ?v14) ?y14 ?r14
        case y14 => intro w hSw; (try dsimp only at hSw); go_simp; (try with_reducible rfl)
        try simp only [Act.put, List.setIfInBounds_toArray, List.set_cons_zero, List.set_cons_succ]
        refine held_on 16 (some 73) rfl rfl (by kernel_rfl) (by kernel_rfl) (by kernel_rfl) (fun _ _ _ h => h) (by rfl) hHeld (v := ?v15) ?y15 ?r15
        case y15 => intro w hSw; (try dsimp only at hSw); go_simp; (try with_reducible rfl)
        try simp only [Act.put, List.setIfInBounds_toArray, List.set_cons_zero, List.set_cons_succ]
        refine held_on 17 (some 11) rfl rfl (by kernel_rfl) (by kernel_rfl) (by kernel_rfl) (fun _ _ _ h => h) (by rfl) hHeld (v := ?v16) ?y16 ?r16
        case y16 => intro w hSw; (try dsimp only at hSw); go_simp; (try with_reducible rfl)
        try simp only [Act.put, List.setIfInBounds_toArray, List.set_cons_zero, List.set_cons_succ]
        refine held_on 18 (some 12) rfl rfl (by kernel_rfl) (by kernel_rfl) (by kernel_rfl) (fun _ _ _ h => h) (by rfl) hHeld (v := ?v17) ?y17 ?r17
        case y17 => intro w hSw; (try dsimp only at hSw); go_simp; (try with_reducible rfl)
        try simp only [Act.put, List.setIfInBounds_toArray, List.set_cons_zero, List.set_cons_succ]
        refine wpAnyH_done (by kernel_rfl) ?_ _
        obtain ⟨y_c0, y_t0, y_t1, y_t2, y_t3, y_t4, y_t5, y_t6, y_t7, y_q, y_n, y_i, y_b, y_R⟩ := hHeld
        replace hA := hA.keep y_R
        replace B0 := B0.keep y_R
        replace hb := below_on hb y_R
        clear y_c0 y_t0 y_t1 y_t2 y_t3 y_t4 y_t5 y_t6 y_t7 y_q y_n y_i y_b y_R b0 b1 b2 b3 b4 b5 b6 bl hc0 hc1 hc2 hc3 hc4 hbl hbi t0 t1 t2 t3 t4 t5 t6 t7 HIT
        have hgd := netOf_bd p.it[qn] l[k].2.1 (by omega)
        have HGD : Hid (goodOf p item l[k] = (netOf p.it[qn] l[k].2.1).1) := by show _ = _; unfold goodOf; rw [HPX.out]
        generalize (netOf p.it[qn] l[k].2.1).1 = gd at *
        obtain ⟨dn, hdn⟩ : ∃ dn : Nat, l[k].2.2.2.1 = (dn : Int) := ⟨(l[k].2.2.2.1).toNat, by omega⟩
        have hd1 : dn < 1000 := by omega
        have hd2 : (dn : Int) < (1000 : Int) := by omega
        have hmc := hdy.cell dn
        generalize hma : M.getD dn 0 = mv at *
        have HMA := Lib.hid hma
        clear hma
        have HYY : Hid (tkTo (evsR fl ++ evsG p item (l.take (k + 1))) = M.set dn (mv + gd)) := by
          show _ = _
          rw [HST.out]; unfold tkStep goodV; simp only []; rw [HGD.out, hdn, Int.toNat_natCast, HMA.out, Int.one_mul]
        obtain ⟨_, _, e9, hbl, hc0, hc1, hc2, hc3, hc4⟩ := planned_at (hl.keep hb) hlt
        obtain ⟨rfl, rfl⟩ : b = _ ∧ o = _ := by simpa using e9
        clear e9
        rw [hdn] at hc3
        have cA := hA.cell (j := dn) (by rw [hA.len]; exact hd1)
        have cA2 : w7.cell? ⟨gi, dn, none⟩ = some (.int .i64 mv) := by rw [cA, ← HMA.out, List.getD_eq_getElem?_getD, List.getElem?_eq_getElem (by rw [hA.len]; exact hd1)]; rfl
        have fA := hA.frozen dn
        clear cA
        go_wp2_with fail
        go_still_tail 17, (by kernel_rfl)
        change wpList _ _ _ _ _ w7.drew
        replace hA := hA.keep (Below.refl w7.heap.size w7).drew
        replace B0 := B0.keep (Below.refl w7.heap.size w7).drew
        replace cA2 : w7.drew.cell? ⟨gi, dn, none⟩ = some (.int .i64 mv) := cA2
        replace fA : w7.drew.frozen? ⟨gi, dn, none⟩ = false := fA
        replace hb := hb.drew
        clear hc0 hc1 hc2 hc3 hc4 hbl
        generalize w7.drew = W8 at *
        go_wp2_with fail
        go_roundw
        case rel => exact ⟨k + 1, by omega, by go_num, by rw [HYY.out]; exact hA.set dn _, B0.off (by show gi ≠ w.heap.size; omega) _, hb.setCell (p := ⟨gi, dn, none⟩) (by show w.heap.size ≤ gi; omega) _⟩
        case measure => simp [intOf]; omega
    have HST := Lib.hid (HR1.out k hlt)
    have hdy := HER.out k
    obtain ⟨⟨u1, u2⟩, u3, u4⟩ := HRB.out fl[k] (by rw [← HRY.out]; exact List.getElem_mem hlt)
    generalize hMM : tkTo ((evsR fl).take k) = M at *
    clear hMM
    obtain ⟨b, o, rfl, hbl, hc0, hc1⟩ := flow_at (hfo.rows (by omega)) hlt
    obtain ⟨dn, hdn⟩ : ∃ dn : Nat, fl[k].1 = (dn : Int) := ⟨(fl[k].1).toNat, by omega⟩
    have hd1 : dn < 1000 := by omega
    have hd2 : (dn : Int) < (1000 : Int) := by omega
    have hmc := hdy.cell dn
    generalize hma : M.getD dn 0 = mv at *
    have HMA := Lib.hid hma
    clear hma
    have HYY : Hid (tkTo ((evsR fl).take (k + 1)) = M.set dn (mv + fl[k].2)) := by
      show _ = _
      rw [HST.out]; unfold tkStep; simp only []; rw [hdn, Int.toNat_natCast, HMA.out, Int.one_mul]
    rw [hdn] at hc0
    have cA := hA.cell (j := dn) (by rw [hA.len]; exact hd1)
    have cA2 : wr.cell? ⟨gi, dn, none⟩ = some (.int .i64 mv) := by rw [cA, ← HMA.out, List.getD_eq_getElem?_getD, List.getElem?_eq_getElem (by rw [hA.len]; exact hd1)]; rfl
    have fA := hA.frozen dn
    clear cA
    have hrcl := HRCL.out
    have hw1 : IntKind.i64.wrap (mv + fl[k].2) = mv + fl[k].2 := IntWalk.i64_in _ (by omega)
    go_wp2_with fail
    go_still_tail 21, (by kernel_rfl)
    change wpList _ _ _ _ _ wr.drew
    replace hA := hA.keep (Below.refl wr.heap.size wr).drew
    replace hfo := hfo.keep (Below.refl wr.heap.size wr).drew
    replace B0 := B0.keep (Below.refl wr.heap.size wr).drew
    replace cA2 : wr.drew.cell? ⟨gi, dn, none⟩ = some (.int .i64 mv) := cA2
    replace fA : wr.drew.frozen? ⟨gi, dn, none⟩ = false := fA
    replace hb := hb.drew
    clear hc0 hc1 hbl
    generalize wr.drew = W8 at *
    go_wp2_with fail
    go_roundw
    case rel => exact ⟨k + 1, by omega, by go_num, by rw [HYY.out]; exact hA.set dn _, hfo.far (p := ⟨gi, dn, none⟩) (by show gi < lo6; omega) _, B0.off (by show gi ≠ w.heap.size; omega) _, hb.setCell (p := ⟨gi, dn, none⟩) (by show w.heap.size ≤ gi; omega) _⟩
    case measure => simp [intOf]; omega
end Go.Proofs.YtlnkofnfgemfdaaGreat
