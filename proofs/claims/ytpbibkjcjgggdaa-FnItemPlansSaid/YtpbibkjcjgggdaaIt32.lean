/- Part 32 of the texts of this claim: The walk of the law FnItemPlans: for every input it returns true, and no memory that was there is written. -/
import Derived.Test.YtpbibkjcjgggdaaIt18
import Derived.Test.YtpbibkjcjgggdaaIt19
import Derived.Test.YtpbibkjcjgggdaaIt20
import Derived.Test.YtpbibkjcjgggdaaIt14
import Derived.Test.YtpbibkjcjgggdaaIt2
import Derived.Test.YtpbibkjcjgggdaaIt15
import Derived.Test.YtpbibkjcjgggdaaIt16
import Derived.Test.YtpbibkjcjgggdaaIt4
import Derived.Test.YtpbibkjcjgggdaaIt31
import Derived.Test.YtpbibkjcjgggdaaIt24
import Derived.Deep.CutRange
/- The walk of the law FnItemPlans: for every input it returns true, and no memory that was there is written. -/
namespace Go.Proofs.Ytpbibkjcjgggdaa
open Go.RowKit
set_option maxRecDepth 100000 in
set_option maxHeartbeats 4000000 in
theorem lawItemPlans {w : World} (A : Option Addr) (n c : Nat) (l : List Int) (hl : n ≤ 1048576 → RowsIn byteF w A n l ∧ ∀ x ∈ l, okByte x) (hn : n ≤ 9223372036854775807) :
    Calls Try.prog 3 #[.slice A n c] w fun e w' => e = .returned (.bool true) ∧ Below w.heap.size w w' := by
  by_cases big : 1048576 < n
  · go_enter Try.func3, Try.ntmps3
    go_wp2_with fail
    refine (big_yes _ _ _ _ big hn).mono ?_
    rintro e w1 ⟨rfl, rfl⟩
    go_wp2_with fail
    go_ret
    exact ⟨rfl, Below.refl _ _⟩
  obtain ⟨hi, hok⟩ := hl (by omega)
  have hby := bytesAt_of hi hok
  clear hl hi hok
  go_enter Try.func3, Try.ntmps3
  go_wp2_with fail
  refine (big_no _ _ _ _ big).mono ?_
  rintro e w1 ⟨rfl, rfl⟩
  go_wp2_with fail
  refine (DrawPlanItem_any _ _ _ _ hby).mono ?_
  rintro e w1 ⟨r, p, s, A1, c1, needs, rfl, hok, hsz, hp, hf, hbD⟩
  obtain ⟨⟨a0, n0, c0⟩, ⟨a1, n1, c1'⟩, ⟨a2, n2, c2⟩, ⟨a3, n3, c3⟩, ⟨a4, n4, c4⟩, ⟨a5, n5, c5⟩, ⟨a6, n6, c6⟩⟩ := r
  have HO := Lib.hid hok
  clear hby big hok
  have hn0 : n0 = p.it.length := hp.it.1
  subst hn0
  dsimp only [PtR.v]
  have hs := below_alloc w1 (.cells #[.slice a0 p.it.length c0, .slice a1 n1 c1', .slice a2 n2 c2, .slice a3 n3 c3, .slice a4 n4 c4, .slice a5 n5 c5, .slice a6 n6 c6] 34)
  have B0 : BoxOf (w1.alloc (.cells #[.slice a0 p.it.length c0, .slice a1 n1 c1', .slice a2 n2 c2, .slice a3 n3 c3, .slice a4 n4 c4, .slice a5 n5 c5, .slice a6 n6 c6] 34)) w1.heap.size [.slice a0 p.it.length c0, .slice a1 n1 c1', .slice a2 n2 c2, .slice a3 n3 c3, .slice a4 n4 c4, .slice a5 n5 c5, .slice a6 n6 c6] := boxOf_alloc w1 #[.slice a0 p.it.length c0, .slice a1 n1 c1', .slice a2 n2 c2, .slice a3 n3 c3, .slice a4 n4 c4, .slice a5 n5 c5, .slice a6 n6 c6] 34
  replace hp := hp.keep hs
  replace hf := hf.keep hs
  replace hbD := below_on hbD hs
  obtain ⟨b0, b1, b2, b3, b4, b5, b6, bl⟩ := B0.seven
  go_wp2_with fail
  generalize (w1.alloc (.cells #[.slice a0 p.it.length c0, .slice a1 n1 c1', .slice a2 n2 c2, .slice a3 n3 c3, .slice a4 n4 c4, .slice a5 n5 c5, .slice a6 n6 c6] 34)) = w2 at *
  generalize w1.heap.size = Pb at *
  clear hs
  refine (implPlanItem_any (⟨⟨a0, p.it.length, c0⟩, ⟨a1, n1, c1'⟩, ⟨a2, n2, c2⟩, ⟨a3, n3, c3⟩, ⟨a4, n4, c4⟩, ⟨a5, n5, c5⟩, ⟨a6, n6, c6⟩⟩ : PtR) p s A1 _ c1 needs _ hp HO.out hsz hf).mono ?_
  rintro e w3 ⟨A6, c6', rfl, os, hs⟩
  replace hp := hp.keep hs
  replace hf := hf.keep hs
  replace hbD := below_on hbD hs
  replace B0 := B0.keep hs
  clear hs b0 b1 b2 b3 b4 b5 b6 bl
  obtain ⟨b0, b1, b2, b3, b4, b5, b6, bl⟩ := B0.seven
  cases hflag : (planOk p s needs && ((planNet p s needs).2 && ((planLots p s needs).2 && (planLots p s needs).1.all (smallF (planX p s)))))
  · have HNO := Lib.hid (planItem_no hflag)
    rw [HNO.out] at os ⊢
    clear os hflag
    dsimp only
    go_wp2_with fail
    refine (specPlanItem_any (⟨⟨a0, p.it.length, c0⟩, ⟨a1, n1, c1'⟩, ⟨a2, n2, c2⟩, ⟨a3, n3, c3⟩, ⟨a4, n4, c4⟩, ⟨a5, n5, c5⟩, ⟨a6, n6, c6⟩⟩ : PtR) p s A1 _ c1 needs _ hp HO.out hsz hf).mono ?_
    rintro e w4 ⟨A7, c7, rfl, _, hs⟩
    rw [HNO.out]
    replace hbD := below_on hbD hs
    dsimp only
    go_wp2_with fail
    go_ret
    exact ⟨rfl, hbD⟩
  simp only [Bool.and_eq_true] at hflag
  obtain ⟨g1, g2, g3, g4⟩ := hflag
  have HYES := Lib.hid (planItem_yes g1 g2 g3 g4)
  have HG1 := Lib.hid g1
  have hpl : isPlant p = true ∧ 0 ≤ findIt p.it s ∧ areFlows needs = true := by
    unfold planOk at g1
    simp only [Bool.and_eq_true, decide_eq_true_eq] at g1
    exact ⟨g1.1, g1.2.1, g1.2.2.2⟩
  obtain ⟨p1, p2, p3⟩ := hpl
  obtain ⟨qn, hqn⟩ : ∃ qn : Nat, findIt p.it s = (qn : Int) := ⟨(findIt p.it s).toNat, by omega⟩
  have q1 : qn < p.it.length := by have := findIt_lt p2; omega
  have hX : planX p s = p.it[qn] := planX_at hqn q1
  have hxi := isPlant_item p1 q1
  have hokx := HO.out.it _ (List.getElem_mem q1)
  obtain ⟨rcv, hrcv⟩ : ∃ rcv, receiptFlows p s = rcv := ⟨_, rfl⟩
  obtain ⟨sk, hsk⟩ : ∃ sk, stockOf p s = sk := ⟨_, rfl⟩
  have HNET : Hid (netNeeds rcv needs sk p.it[qn].2.2.2.2.2.2.1 = ((planNet p s needs).1, true)) := by
    show _ = _
    rw [← hrcv, ← hsk, ← hX]
    have : (planNet p s needs) = ((planNet p s needs).1, (planNet p s needs).2) := rfl
    rw [g2] at this
    exact this
  have HLOT : Hid (lotsFor (planNet p s needs).1 p.it[qn].2.2.2.2.1 p.it[qn].2.2.2.2.2.1 = ((planLots p s needs).1, true)) := by
    show _ = _
    rw [← hX]
    have : (planLots p s needs) = ((planLots p s needs).1, (planLots p s needs).2) := rfl
    rw [g3] at this
    exact this
  have HSM : Hid (∀ f ∈ (planLots p s needs).1, smallF p.it[qn] f = true) := by
    show ∀ f ∈ _, _
    rw [← hX]
    exact fun f hf => List.all_eq_true.1 g4 f hf
  have HAF : Hid (areFlows (planLots p s needs).1 = true) := by
    show _ = _
    have := lotsFor_flows (planNet p s needs).1 p.it[qn].2.2.2.2.1 p.it[qn].2.2.2.2.2.1
    rw [HLOT.out] at this
    exact this
  have h40 := planLots_40 p s needs
  rw [HYES.out, hX] at os ⊢
  have HRCV := Lib.hid hrcv
  have HSK := Lib.hid hsk
  have HP1 := Lib.hid p1
  have HQN := Lib.hid hqn
  rw [hX] at HYES
  clear g1 g2 g3 g4 hX hrcv hsk p1 p2 p3 hqn
  generalize planNet p s needs = pn at *
  generalize planLots p s needs = lt at *
  obtain ⟨lots, ltb⟩ := lt
  dsimp only at os HLOT HSM HAF h40 HYES ⊢
  generalize hx : p.it[qn] = x at *
  have HX := Lib.hid hx
  clear hx
  have hLl : (lots.map (plOf p s x)).length = lots.length := by simp
  have HAT : Hid (∀ k (hk : k < lots.length) (h2 : k < (lots.map (plOf p s x)).length), (lots.map (plOf p s x))[k] = plOf p s x lots[k]) := fun k hk h2 => by simp
  generalize hL : lots.map (plOf p s x) = L at *
  clear hL
  have hLa : L.length ≤ lots.length := Nat.le_of_eq hLl
  have hLb : lots.length ≤ L.length := Nat.le_of_eq hLl.symm
  clear hLl
  have hlen : L.length ≤ 40 := by omega
  go_wp2_with fail
  refine (specPlanItem_any (⟨⟨a0, p.it.length, c0⟩, ⟨a1, n1, c1'⟩, ⟨a2, n2, c2⟩, ⟨a3, n3, c3⟩, ⟨a4, n4, c4⟩, ⟨a5, n5, c5⟩, ⟨a6, n6, c6⟩⟩ : PtR) p s A1 _ c1 needs _ hp HO.out hsz hf).mono ?_
  rintro e w4 ⟨A7, c7, rfl, _, hs⟩
  rw [HYES.out]
  dsimp only
  replace hp := hp.keep hs
  replace hf := hf.keep hs
  replace hbD := below_on hbD hs
  replace B0 := B0.keep hs
  have hS : PlannedsIn w4 A6 L.length L := (os.keep hs).rows (by omega)
  clear hs b0 b1 b2 b3 b4 b5 b6 bl os HYES
  obtain ⟨b0, b1, b2, b3, b4, b5, b6, bl⟩ := B0.seven
  obtain ⟨bi, oi, hae, hbi, t0, t1, t2, t3, t4, t5, t6, t7⟩ := item_at hp.it q1
  simp only at hae
  subst hae
  rw [HX.out] at t0 t1 t2 t3 t4 t5 t6 t7
  have qi : (qn : Int) < (p.it.length : Int) := by omega
  have qi0 : (0 : Int) ≤ (qn : Int) := by omega
  have hpI : ItemsIn w4 (some ⟨bi, oi, none⟩) p.it.length p.it := hp.it
  have hpD : ItemsIn w4.drew (some ⟨bi, oi, none⟩) p.it.length p.it := hpI
  have hpA : ItemsIn (w4.alloc (.cells #[.string ⟨#[]⟩, .string ⟨#[]⟩, .int .i64 0, .int .i64 0, .int .i64 0, .int .i64 0, .int .i64 0, .int .i64 0] 42)).drew (some ⟨bi, oi, none⟩) p.it.length p.it := RowsIn.drew (w := w4.alloc (.cells #[.string ⟨#[]⟩, .string ⟨#[]⟩, .int .i64 0, .int .i64 0, .int .i64 0, .int .i64 0, .int .i64 0, .int .i64 0] 42)) (hpI.keep (below_alloc w4 (.cells #[.string ⟨#[]⟩, .string ⟨#[]⟩, .int .i64 0, .int .i64 0, .int .i64 0, .int .i64 0, .int .i64 0, .int .i64 0] 42)))
  go_upto_region 10 with fail
  go_cut [10] from 49 to 56 (fun v wx => ∃ Xb : Nat, v = .pointer (some ⟨Xb, 0, none⟩) ∧ BoxOf wx Xb [.string x.1, .string x.2.1, .int .i64 x.2.2.1, .int .i64 x.2.2.2.1, .int .i64 x.2.2.2.2.1, .int .i64 x.2.2.2.2.2.1, .int .i64 x.2.2.2.2.2.2.1, .int .i64 x.2.2.2.2.2.2.2] ∧ Below w4.heap.size w4 wx)
  case first =>
    refine wp_region_held_drew (S := fun w' => (w'.cell? ⟨Pb, 0, none⟩ = some (.slice (some ⟨bi, oi, none⟩) p.it.length c0) ∧ w'.cell? ⟨bi, oi + qn * 8, none⟩ = some (.string x.1) ∧ w'.cell? ⟨bi, oi + qn * 8 + 1, none⟩ = some (.string x.2.1) ∧ w'.cell? ⟨bi, oi + qn * 8 + 2, none⟩ = some (.int .i64 x.2.2.1) ∧ w'.cell? ⟨bi, oi + qn * 8 + 3, none⟩ = some (.int .i64 x.2.2.2.1) ∧ w'.cell? ⟨bi, oi + qn * 8 + 4, none⟩ = some (.int .i64 x.2.2.2.2.1) ∧ w'.cell? ⟨bi, oi + qn * 8 + 5, none⟩ = some (.int .i64 x.2.2.2.2.2.1) ∧ w'.cell? ⟨bi, oi + qn * 8 + 6, none⟩ = some (.int .i64 x.2.2.2.2.2.2.1) ∧ w'.cell? ⟨bi, oi + qn * 8 + 7, none⟩ = some (.int .i64 x.2.2.2.2.2.2.2)) ∧ Below w4.heap.size w4 w') (by kernel_rfl) (⟨⟨b0, t0, t1, t2, t3, t4, t5, t6, t7⟩, (Below.refl _ w4).drew⟩) (fun hHeld => ?_)
    refine held_on 0 (some 49) rfl rfl (by kernel_rfl) (by kernel_rfl) (by kernel_rfl) (fun _ _ _ h => h) (by rfl) hHeld (v := ?v1) ?y1 ?r1
    case y1 => intro w hSw; (try dsimp only at hSw); go_simp; (try with_reducible rfl)
    try simp only [Act.put, List.setIfInBounds_toArray, List.set_cons_zero, List.set_cons_succ]
    refine held_on 1 (some 50) rfl rfl (by kernel_rfl) (by kernel_rfl) (by kernel_rfl) (fun _ _ _ h => h) (by rfl) hHeld (v := ?v2) ?y2 ?r2
    case y2 => intro w hSw; (try dsimp only at hSw); go_simp; (try with_reducible rfl)
    try simp only [Act.put, List.setIfInBounds_toArray, List.set_cons_zero, List.set_cons_succ]
    refine held_on 2 (some 51) rfl rfl (by kernel_rfl) (by kernel_rfl) (by kernel_rfl) (fun _ _ _ h => h) (by rfl) hHeld (v := ?v3) ?y3 ?r3
    case y3 => intro w hSw; (try dsimp only at hSw); go_simp; (try with_reducible rfl)
    try simp only [Act.put, List.setIfInBounds_toArray, List.set_cons_zero, List.set_cons_succ]
    refine held_on 3 (some 52) rfl rfl (by kernel_rfl) (by kernel_rfl) (by kernel_rfl) (fun _ _ _ h => h) (by rfl) hHeld (v := ?v4) ?y4 ?r4
    case y4 => intro w hSw; (try dsimp only at hSw); go_simp; (try with_reducible rfl)
    try simp only [Act.put, List.setIfInBounds_toArray, List.set_cons_zero, List.set_cons_succ]
    refine held_on 4 (some 53) rfl rfl (by kernel_rfl) (by kernel_rfl) (by kernel_rfl) (fun _ _ _ h => h) (by rfl) hHeld (v := ?v5) ?y5 ?r5
    case y5 => intro w hSw; (try dsimp only at hSw); go_simp; (try with_reducible rfl)
    try simp only [Act.put, List.setIfInBounds_toArray, List.set_cons_zero, List.set_cons_succ]
    refine wpAnyH_ready (rs := [5, 8]) (by kernel_rfl) (by simp) ?_
    refine AllReadyH.cons rfl (fun K hK => ?_) (AllReadyH.cons rfl (fun K hK => ?_) (AllReadyH.nil))
    · skip
      go_simp
      go_at_call 8
      refine (specFindItem_any (some ⟨bi, oi, none⟩) p.it.length c0 p.it s _ hpD).mono ?_
      rintro e w' ⟨rfl, rfl⟩
      rw [HQN.out]
      go_simp
      refine hK.out _ _ (hHeld) (fun hHeld => ?_)
      clear hK K
      try simp only [Act.put, List.setIfInBounds_toArray, List.set_cons_zero, List.set_cons_succ]
      refine held_on 6 (some 55) rfl rfl (by kernel_rfl) (by kernel_rfl) (by kernel_rfl) (fun _ _ _ h => h) (by rfl) hHeld (v := ?v6) ?y6 ?r6
      case y6 => intro w hSw; (try dsimp only at hSw); go_simp; (try with_reducible rfl)
      try simp only [Act.put, List.setIfInBounds_toArray, List.set_cons_zero, List.set_cons_succ]
      refine held_on 7 (some 56) rfl rfl (by kernel_rfl) (by kernel_rfl) (by kernel_rfl) (fun _ _ _ h => h) (by rfl) hHeld (v := ?v7) ?y7 ?r7
      case y7 => intro w hSw; (try dsimp only at hSw); go_simp; (try with_reducible rfl)
      try simp only [Act.put, List.setIfInBounds_toArray, List.set_cons_zero, List.set_cons_succ]
      refine wpAnyH_ready (rs := [8]) (by kernel_rfl) (by simp) ?_
      refine AllReadyH.cons rfl (fun K hK => ?_) AllReadyH.nil
      go_simp
      refine hK.out _ _ (⟨⟨alloc_cell b0 (.cells #[.string ⟨#[]⟩, .string ⟨#[]⟩, .int .i64 0, .int .i64 0, .int .i64 0, .int .i64 0, .int .i64 0, .int .i64 0] 42), alloc_cell t0 (.cells #[.string ⟨#[]⟩, .string ⟨#[]⟩, .int .i64 0, .int .i64 0, .int .i64 0, .int .i64 0, .int .i64 0, .int .i64 0] 42), alloc_cell t1 (.cells #[.string ⟨#[]⟩, .string ⟨#[]⟩, .int .i64 0, .int .i64 0, .int .i64 0, .int .i64 0, .int .i64 0, .int .i64 0] 42), alloc_cell t2 (.cells #[.string ⟨#[]⟩, .string ⟨#[]⟩, .int .i64 0, .int .i64 0, .int .i64 0, .int .i64 0, .int .i64 0, .int .i64 0] 42), alloc_cell t3 (.cells #[.string ⟨#[]⟩, .string ⟨#[]⟩, .int .i64 0, .int .i64 0, .int .i64 0, .int .i64 0, .int .i64 0, .int .i64 0] 42), alloc_cell t4 (.cells #[.string ⟨#[]⟩, .string ⟨#[]⟩, .int .i64 0, .int .i64 0, .int .i64 0, .int .i64 0, .int .i64 0, .int .i64 0] 42), alloc_cell t5 (.cells #[.string ⟨#[]⟩, .string ⟨#[]⟩, .int .i64 0, .int .i64 0, .int .i64 0, .int .i64 0, .int .i64 0, .int .i64 0] 42), alloc_cell t6 (.cells #[.string ⟨#[]⟩, .string ⟨#[]⟩, .int .i64 0, .int .i64 0, .int .i64 0, .int .i64 0, .int .i64 0, .int .i64 0] 42), alloc_cell t7 (.cells #[.string ⟨#[]⟩, .string ⟨#[]⟩, .int .i64 0, .int .i64 0, .int .i64 0, .int .i64 0, .int .i64 0, .int .i64 0] 42)⟩, (below_alloc w4 (.cells #[.string ⟨#[]⟩, .string ⟨#[]⟩, .int .i64 0, .int .i64 0, .int .i64 0, .int .i64 0, .int .i64 0, .int .i64 0] 42)).drew⟩) (fun hHeld => ?_)
      clear hK K
      try simp only [Act.put, List.setIfInBounds_toArray, List.set_cons_zero, List.set_cons_succ]
      refine wpAnyH_ready (rs := [9]) (by kernel_rfl) (by simp) ?_
      refine AllReadyH.cons rfl (fun K hK => ?_) AllReadyH.nil
      go_simp
      refine hK.out _ _ (⟨⟨alloc_cell b0 (.cells #[.string x.1, .string x.2.1, .int .i64 x.2.2.1, .int .i64 x.2.2.2.1, .int .i64 x.2.2.2.2.1, .int .i64 x.2.2.2.2.2.1, .int .i64 x.2.2.2.2.2.2.1, .int .i64 x.2.2.2.2.2.2.2] 42), alloc_cell t0 (.cells #[.string x.1, .string x.2.1, .int .i64 x.2.2.1, .int .i64 x.2.2.2.1, .int .i64 x.2.2.2.2.1, .int .i64 x.2.2.2.2.2.1, .int .i64 x.2.2.2.2.2.2.1, .int .i64 x.2.2.2.2.2.2.2] 42), alloc_cell t1 (.cells #[.string x.1, .string x.2.1, .int .i64 x.2.2.1, .int .i64 x.2.2.2.1, .int .i64 x.2.2.2.2.1, .int .i64 x.2.2.2.2.2.1, .int .i64 x.2.2.2.2.2.2.1, .int .i64 x.2.2.2.2.2.2.2] 42), alloc_cell t2 (.cells #[.string x.1, .string x.2.1, .int .i64 x.2.2.1, .int .i64 x.2.2.2.1, .int .i64 x.2.2.2.2.1, .int .i64 x.2.2.2.2.2.1, .int .i64 x.2.2.2.2.2.2.1, .int .i64 x.2.2.2.2.2.2.2] 42), alloc_cell t3 (.cells #[.string x.1, .string x.2.1, .int .i64 x.2.2.1, .int .i64 x.2.2.2.1, .int .i64 x.2.2.2.2.1, .int .i64 x.2.2.2.2.2.1, .int .i64 x.2.2.2.2.2.2.1, .int .i64 x.2.2.2.2.2.2.2] 42), alloc_cell t4 (.cells #[.string x.1, .string x.2.1, .int .i64 x.2.2.1, .int .i64 x.2.2.2.1, .int .i64 x.2.2.2.2.1, .int .i64 x.2.2.2.2.2.1, .int .i64 x.2.2.2.2.2.2.1, .int .i64 x.2.2.2.2.2.2.2] 42), alloc_cell t5 (.cells #[.string x.1, .string x.2.1, .int .i64 x.2.2.1, .int .i64 x.2.2.2.1, .int .i64 x.2.2.2.2.1, .int .i64 x.2.2.2.2.2.1, .int .i64 x.2.2.2.2.2.2.1, .int .i64 x.2.2.2.2.2.2.2] 42), alloc_cell t6 (.cells #[.string x.1, .string x.2.1, .int .i64 x.2.2.1, .int .i64 x.2.2.2.1, .int .i64 x.2.2.2.2.1, .int .i64 x.2.2.2.2.2.1, .int .i64 x.2.2.2.2.2.2.1, .int .i64 x.2.2.2.2.2.2.2] 42), alloc_cell t7 (.cells #[.string x.1, .string x.2.1, .int .i64 x.2.2.1, .int .i64 x.2.2.2.1, .int .i64 x.2.2.2.2.1, .int .i64 x.2.2.2.2.2.1, .int .i64 x.2.2.2.2.2.2.1, .int .i64 x.2.2.2.2.2.2.2] 42)⟩, (below_alloc w4 (.cells #[.string x.1, .string x.2.1, .int .i64 x.2.2.1, .int .i64 x.2.2.2.1, .int .i64 x.2.2.2.2.1, .int .i64 x.2.2.2.2.2.1, .int .i64 x.2.2.2.2.2.2.1, .int .i64 x.2.2.2.2.2.2.2] 42)).drew⟩) (fun hHeld => ?_)
      clear hK K
      try simp only [Act.put, List.setIfInBounds_toArray, List.set_cons_zero, List.set_cons_succ]
      refine wpAnyH_done (by kernel_rfl) ?_ _
      go_wp2_with fail
      go_meet
      case rel => exact ⟨w4.heap.size, rfl, boxOf_alloc w4 #[.string x.1, .string x.2.1, .int .i64 x.2.2.1, .int .i64 x.2.2.2.1, .int .i64 x.2.2.2.2.1, .int .i64 x.2.2.2.2.2.1, .int .i64 x.2.2.2.2.2.2.1, .int .i64 x.2.2.2.2.2.2.2] 42, (below_alloc w4 (.cells #[.string x.1, .string x.2.1, .int .i64 x.2.2.1, .int .i64 x.2.2.2.1, .int .i64 x.2.2.2.2.1, .int .i64 x.2.2.2.2.2.1, .int .i64 x.2.2.2.2.2.2.1, .int .i64 x.2.2.2.2.2.2.2] 42)).drew⟩
    · skip
      go_simp
      refine hK.out _ _ (⟨⟨alloc_cell b0 (.cells #[.string ⟨#[]⟩, .string ⟨#[]⟩, .int .i64 0, .int .i64 0, .int .i64 0, .int .i64 0, .int .i64 0, .int .i64 0] 42), alloc_cell t0 (.cells #[.string ⟨#[]⟩, .string ⟨#[]⟩, .int .i64 0, .int .i64 0, .int .i64 0, .int .i64 0, .int .i64 0, .int .i64 0] 42), alloc_cell t1 (.cells #[.string ⟨#[]⟩, .string ⟨#[]⟩, .int .i64 0, .int .i64 0, .int .i64 0, .int .i64 0, .int .i64 0, .int .i64 0] 42), alloc_cell t2 (.cells #[.string ⟨#[]⟩, .string ⟨#[]⟩, .int .i64 0, .int .i64 0, .int .i64 0, .int .i64 0, .int .i64 0, .int .i64 0] 42), alloc_cell t3 (.cells #[.string ⟨#[]⟩, .string ⟨#[]⟩, .int .i64 0, .int .i64 0, .int .i64 0, .int .i64 0, .int .i64 0, .int .i64 0] 42), alloc_cell t4 (.cells #[.string ⟨#[]⟩, .string ⟨#[]⟩, .int .i64 0, .int .i64 0, .int .i64 0, .int .i64 0, .int .i64 0, .int .i64 0] 42), alloc_cell t5 (.cells #[.string ⟨#[]⟩, .string ⟨#[]⟩, .int .i64 0, .int .i64 0, .int .i64 0, .int .i64 0, .int .i64 0, .int .i64 0] 42), alloc_cell t6 (.cells #[.string ⟨#[]⟩, .string ⟨#[]⟩, .int .i64 0, .int .i64 0, .int .i64 0, .int .i64 0, .int .i64 0, .int .i64 0] 42), alloc_cell t7 (.cells #[.string ⟨#[]⟩, .string ⟨#[]⟩, .int .i64 0, .int .i64 0, .int .i64 0, .int .i64 0, .int .i64 0, .int .i64 0] 42)⟩, (below_alloc w4 (.cells #[.string ⟨#[]⟩, .string ⟨#[]⟩, .int .i64 0, .int .i64 0, .int .i64 0, .int .i64 0, .int .i64 0, .int .i64 0] 42)).drew⟩) (fun hHeld => ?_)
      clear hK K
      try simp only [Act.put, List.setIfInBounds_toArray, List.set_cons_zero, List.set_cons_succ]
      refine wpAnyH_ready (rs := [5]) (by kernel_rfl) (by simp) ?_
      refine AllReadyH.cons rfl (fun K hK => ?_) AllReadyH.nil
      go_simp
      go_at_call 8
      refine (specFindItem_any (some ⟨bi, oi, none⟩) p.it.length c0 p.it s _ hpA).mono ?_
      rintro e w' ⟨rfl, rfl⟩
      rw [HQN.out]
      go_simp
      refine hK.out _ _ (hHeld) (fun hHeld => ?_)
      clear hK K
      try simp only [Act.put, List.setIfInBounds_toArray, List.set_cons_zero, List.set_cons_succ]
      refine held_on 6 (some 55) rfl rfl (by kernel_rfl) (by kernel_rfl) (by kernel_rfl) (fun _ _ _ h => h) (by rfl) hHeld (v := ?v8) ?y8 ?r8
      case y8 => intro w hSw; (try dsimp only at hSw); go_simp; (try with_reducible rfl)
      try simp only [Act.put, List.setIfInBounds_toArray, List.set_cons_zero, List.set_cons_succ]
      refine held_on 7 (some 56) rfl rfl (by kernel_rfl) (by kernel_rfl) (by kernel_rfl) (fun _ _ _ h => h) (by rfl) hHeld (v := ?v9) ?y9 ?r9
      case y9 => intro w hSw; (try dsimp only at hSw); go_simp; (try with_reducible rfl)
      try simp only [Act.put, List.setIfInBounds_toArray, List.set_cons_zero, List.set_cons_succ]
      refine wpAnyH_ready (rs := [9]) (by kernel_rfl) (by simp) ?_
      refine AllReadyH.cons rfl (fun K hK => ?_) AllReadyH.nil
      go_simp
      refine hK.out _ _ (⟨⟨alloc_cell b0 (.cells #[.string x.1, .string x.2.1, .int .i64 x.2.2.1, .int .i64 x.2.2.2.1, .int .i64 x.2.2.2.2.1, .int .i64 x.2.2.2.2.2.1, .int .i64 x.2.2.2.2.2.2.1, .int .i64 x.2.2.2.2.2.2.2] 42), alloc_cell t0 (.cells #[.string x.1, .string x.2.1, .int .i64 x.2.2.1, .int .i64 x.2.2.2.1, .int .i64 x.2.2.2.2.1, .int .i64 x.2.2.2.2.2.1, .int .i64 x.2.2.2.2.2.2.1, .int .i64 x.2.2.2.2.2.2.2] 42), alloc_cell t1 (.cells #[.string x.1, .string x.2.1, .int .i64 x.2.2.1, .int .i64 x.2.2.2.1, .int .i64 x.2.2.2.2.1, .int .i64 x.2.2.2.2.2.1, .int .i64 x.2.2.2.2.2.2.1, .int .i64 x.2.2.2.2.2.2.2] 42), alloc_cell t2 (.cells #[.string x.1, .string x.2.1, .int .i64 x.2.2.1, .int .i64 x.2.2.2.1, .int .i64 x.2.2.2.2.1, .int .i64 x.2.2.2.2.2.1, .int .i64 x.2.2.2.2.2.2.1, .int .i64 x.2.2.2.2.2.2.2] 42), alloc_cell t3 (.cells #[.string x.1, .string x.2.1, .int .i64 x.2.2.1, .int .i64 x.2.2.2.1, .int .i64 x.2.2.2.2.1, .int .i64 x.2.2.2.2.2.1, .int .i64 x.2.2.2.2.2.2.1, .int .i64 x.2.2.2.2.2.2.2] 42), alloc_cell t4 (.cells #[.string x.1, .string x.2.1, .int .i64 x.2.2.1, .int .i64 x.2.2.2.1, .int .i64 x.2.2.2.2.1, .int .i64 x.2.2.2.2.2.1, .int .i64 x.2.2.2.2.2.2.1, .int .i64 x.2.2.2.2.2.2.2] 42), alloc_cell t5 (.cells #[.string x.1, .string x.2.1, .int .i64 x.2.2.1, .int .i64 x.2.2.2.1, .int .i64 x.2.2.2.2.1, .int .i64 x.2.2.2.2.2.1, .int .i64 x.2.2.2.2.2.2.1, .int .i64 x.2.2.2.2.2.2.2] 42), alloc_cell t6 (.cells #[.string x.1, .string x.2.1, .int .i64 x.2.2.1, .int .i64 x.2.2.2.1, .int .i64 x.2.2.2.2.1, .int .i64 x.2.2.2.2.2.1, .int .i64 x.2.2.2.2.2.2.1, .int .i64 x.2.2.2.2.2.2.2] 42), alloc_cell t7 (.cells #[.string x.1, .string x.2.1, .int .i64 x.2.2.1, .int .i64 x.2.2.2.1, .int .i64 x.2.2.2.2.1, .int .i64 x.2.2.2.2.2.1, .int .i64 x.2.2.2.2.2.2.1, .int .i64 x.2.2.2.2.2.2.2] 42)⟩, (below_alloc w4 (.cells #[.string x.1, .string x.2.1, .int .i64 x.2.2.1, .int .i64 x.2.2.2.1, .int .i64 x.2.2.2.2.1, .int .i64 x.2.2.2.2.2.1, .int .i64 x.2.2.2.2.2.2.1, .int .i64 x.2.2.2.2.2.2.2] 42)).drew⟩) (fun hHeld => ?_)
      clear hK K
      try simp only [Act.put, List.setIfInBounds_toArray, List.set_cons_zero, List.set_cons_succ]
      refine wpAnyH_done (by kernel_rfl) ?_ _
      go_wp2_with fail
      go_meet
      case rel => exact ⟨w4.heap.size, rfl, boxOf_alloc w4 #[.string x.1, .string x.2.1, .int .i64 x.2.2.1, .int .i64 x.2.2.2.1, .int .i64 x.2.2.2.2.1, .int .i64 x.2.2.2.2.2.1, .int .i64 x.2.2.2.2.2.2.1, .int .i64 x.2.2.2.2.2.2.2] 42, (below_alloc w4 (.cells #[.string x.1, .string x.2.1, .int .i64 x.2.2.1, .int .i64 x.2.2.2.1, .int .i64 x.2.2.2.2.1, .int .i64 x.2.2.2.2.2.1, .int .i64 x.2.2.2.2.2.2.1, .int .i64 x.2.2.2.2.2.2.2] 42)).drew⟩
  case rest =>
    obtain ⟨Xb, rfl, BX, hs⟩ := hcut
    replace hp := hp.keep hs
    replace hf := hf.keep hs
    replace hbD := below_on hbD hs
    replace B0 := B0.keep hs
    replace hS := hS.keep hs
    clear hs b0 b1 b2 b3 b4 b5 b6 bl t0 t1 t2 t3 t4 t5 t6 t7 hbi hpI hpD hpA
    obtain ⟨b0, b1, b2, b3, b4, b5, b6, bl⟩ := B0.seven
    go_wp2_with fail
    refine (specReceiptFlows_any (⟨⟨some ⟨bi, oi, none⟩, p.it.length, c0⟩, ⟨a1, n1, c1'⟩, ⟨a2, n2, c2⟩, ⟨a3, n3, c3⟩, ⟨a4, n4, c4⟩, ⟨a5, n5, c5⟩, ⟨a6, n6, c6⟩⟩ : PtR) p s _ hp HO.out hsz).mono ?_
    rintro e w5 ⟨A9, c9, rfl, orc, hs⟩
    rw [HRCV.out] at orc ⊢
    have hlr : rcv.length ≤ 100 := by
      have := netNeeds_all HNET.out
      have := areFlows_parts this.2.2.1
      omega
    have hrf : FlowsIn w5 A9 rcv.length rcv := orc.rows (by omega)
    replace hp := hp.keep hs
    replace hf := hf.keep hs
    replace hbD := below_on hbD hs
    replace B0 := B0.keep hs
    replace BX := BX.keep hs
    replace hS := hS.keep hs
    clear hs orc b0 b1 b2 b3 b4 b5 b6 bl
    have HC0 : Hid (comes rcv lots 0 rcv) := comes_zero lots (netNeeds_all HNET.out).2.2.1
    go_wp2_with fail
    go_loopw [11, 12] (fun v i wr => ∃ (k : Nat) (come : List Fl) (Ac : Option Addr) (cc : Nat), k ≤ lots.length ∧ i = .int .i64 k ∧ v = .slice Ac come.length cc ∧ come.length ≤ 1000 ∧ FlowsIn wr Ac come.length come ∧ Hid (comes rcv lots k come) ∧ BoxOf wr Pb [.slice (some ⟨bi, oi, none⟩) p.it.length c0, .slice a1 n1 c1', .slice a2 n2 c2, .slice a3 n3 c3, .slice a4 n4 c4, .slice a5 n5 c5, .slice a6 n6 c6] ∧ BoxOf wr Xb [.string x.1, .string x.2.1, .int .i64 x.2.2.1, .int .i64 x.2.2.2.1, .int .i64 x.2.2.2.2.1, .int .i64 x.2.2.2.2.2.1, .int .i64 x.2.2.2.2.2.2.1, .int .i64 x.2.2.2.2.2.2.2] ∧ Below w5.heap.size w5 wr) (fun _ i _ => lots.length - (intOf i).toNat)
    case atStart => exact ⟨0, rcv, A9, c9, by omega, rfl, rfl, by omega, hrf, HC0, B0, BX, Below.refl _ _⟩
    case round =>
      clear B0 BX hrf HC0
      obtain ⟨k, come, Ac, cc, hk, rfl, rfl, hcl, hcf, HC, B0, BX, hb⟩ := hrel
      obtain ⟨b0, b1, b2, b3, b4, b5, b6, bl⟩ := B0.seven
      by_cases hlt : k < lots.length
      case pos =>
        have hLk : k < L.length := by omega
        have ki : (k : Int) < (L.length : Int) := by omega
        obtain ⟨bl9, ol, hle, hbl, hc0, hc1, hc2, hc3, hc4⟩ := planned_at (hS.keep hb) hLk
        subst hle
        rw [HAT.out k hlt hLk] at hc0 hc1 hc2 hc3 hc4
        have hfm := areFlows_mem HAF.out lots[k] (List.getElem_mem hlt)
        have HGL := Lib.hid (good_lot hxi hfm.2.1 hfm.2.2 (HSM.out _ (List.getElem_mem hlt)))
        have hcm : Hid (∀ good next, lots[k].2 ≤ good → mergeFlows come [(lots[k].1, good)] = (next, true) → comes rcv lots (k + 1) next) := fun good next hg hm => comes_succ hlt HC.out hg hm
        have HGL1 := HGL.out.1
        have hd9 := hfm.1
        simp only [plOf] at hc0 hc1 hc2 hc3 hc4
        have HAT1 := Lib.hid (HAT.out k hlt hLk)
        generalize lots[k] = ff at *
        have HGL2 := Lib.hid HGL1
        clear HGL HGL1
        have HAT2 : Hid (L[k] = (s, (grossOf x ff.2).1, (addWd p.wk p.ex ff.1 (-x.2.2.2.1)).1, ff.1, !(addWd p.wk p.ex ff.1 (-x.2.2.2.1)).2)) := HAT1.out
        generalize (grossOf x ff.2).1 = gq at *
        generalize hgw : addWd p.wk p.ex ff.1 (-x.2.2.2.1) = wd at *
        have HWD := Lib.hid hgw
        clear hgw hfm
        have hlead := (isItem_lots x hxi).2.2.2.1
        obtain ⟨kn, hkn0⟩ : ∃ kn : Nat, x.2.2.2.1 = (kn : Int) := ⟨x.2.2.2.1.toNat, by omega⟩
        have hk30 : kn ≤ 30 := by omega
        have hkn := Lib.hid hkn0
        clear hkn0 hlead
        have x0 := BX.2 0 _ rfl
        have x1 := BX.2 1 _ rfl
        have x2 := BX.2 2 _ rfl
        have x3 := BX.2 3 _ rfl
        have x4 := BX.2 4 _ rfl
        have x5 := BX.2 5 _ rfl
        have x6 := BX.2 6 _ rfl
        have x7 := BX.2 7 _ rfl
        have xl := BX.1
        go_upto_region 15 with fail
        refine wp_region_held_drew (S := fun w' => w'.cell? ⟨Xb, 0, none⟩ = some (.string x.1) ∧ w'.cell? ⟨Xb, 1, none⟩ = some (.string x.2.1) ∧ w'.cell? ⟨Xb, 2, none⟩ = some (.int .i64 x.2.2.1) ∧ w'.cell? ⟨Xb, 3, none⟩ = some (.int .i64 x.2.2.2.1) ∧ w'.cell? ⟨Xb, 4, none⟩ = some (.int .i64 x.2.2.2.2.1) ∧ w'.cell? ⟨Xb, 5, none⟩ = some (.int .i64 x.2.2.2.2.2.1) ∧ w'.cell? ⟨Xb, 6, none⟩ = some (.int .i64 x.2.2.2.2.2.2.1) ∧ w'.cell? ⟨Xb, 7, none⟩ = some (.int .i64 x.2.2.2.2.2.2.2) ∧ w'.cell? ⟨bl9, ol + k * 5 + 1, none⟩ = some (.int .i64 gq) ∧ Xb < w'.heap.size ∧ bl9 < w'.heap.size ∧ Below wr.heap.size wr w') (by kernel_rfl) (⟨x0, x1, x2, x3, x4, x5, x6, x7, hc1, xl, hbl, (Below.refl _ wr).drew⟩) (fun hHeld => ?_)
        refine held_on 0 (some 67) rfl rfl (by kernel_rfl) (by kernel_rfl) (by kernel_rfl) (fun _ _ _ h => h) (by rfl) hHeld (v := ?v10) ?y10 ?r10
        case y10 => intro w hSw; (try dsimp only at hSw); go_simp; (try with_reducible rfl)
        try simp only [Act.put, List.setIfInBounds_toArray, List.set_cons_zero, List.set_cons_succ]
        refine held_on 1 (some 68) rfl rfl (by kernel_rfl) (by kernel_rfl) (by kernel_rfl) (fun _ _ _ h => h) (by rfl) hHeld (v := ?v11) ?y11 ?r11
        case y11 => intro w hSw; (try dsimp only at hSw); go_simp; (try with_reducible rfl)
        try simp only [Act.put, List.setIfInBounds_toArray, List.set_cons_zero, List.set_cons_succ]
        refine held_on 2 (some 69) rfl rfl (by kernel_rfl) (by kernel_rfl) (by kernel_rfl) (fun _ _ _ h => h) (by rfl) hHeld (v := ?v12) ?y12 ?r12
        case y12 => intro w hSw; (try dsimp only at hSw); go_simp; (try with_reducible rfl)
        try simp only [Act.put, List.setIfInBounds_toArray, List.set_cons_zero, List.set_cons_succ]
        refine held_on 3 (some 70) rfl rfl (by kernel_rfl) (by kernel_rfl) (by kernel_rfl) (fun _ _ _ h => h) (by rfl) hHeld (v := ?v13) ?y13 ?r13
        case y13 => intro w hSw; (try dsimp only at hSw); go_simp; (try with_reducible rfl)
        try simp only [Act.put, List.setIfInBounds_toArray, List.set_cons_zero, List.set_cons_succ]
        refine held_on 4 (some 71) rfl rfl (by kernel_rfl) (by kernel_rfl) (by kernel_rfl) (fun _ _ _ h => h) (by rfl) hHeld (v := ?v14) ?y14 ?r14
        case y14 => intro w hSw; (try dsimp only at hSw); go_simp; (try with_reducible rfl)
        try simp only [Act.put, List.setIfInBounds_toArray, List.set_cons_zero, List.set_cons_succ]
        refine held_on 5 (some 72) rfl rfl (by kernel_rfl) (by kernel_rfl) (by kernel_rfl) (fun _ _ _ h => h) (by rfl) hHeld (v := ?v15) ?y15 ?r15
        case y15 => intro w hSw; (try dsimp only at hSw); go_simp; (try with_reducible rfl)
        try simp only [Act.put, List.setIfInBounds_toArray, List.set_cons_zero, List.set_cons_succ]
        refine wpAnyH_ready (rs := [6]) (by kernel_rfl) (by simp) ?_
        refine AllReadyH.cons rfl (fun K hK => ?_) AllReadyH.nil
        go_simp
        go_at_call 10
        refine (specNetOf_any x gq _ hokx).mono ?_
        rintro e w6 ⟨rfl, hb3⟩
        go_simp
        refine hK.out _ _ (⟨(hb3.cell (p := ⟨Xb, 0, none⟩) hHeld.2.2.2.2.2.2.2.2.2.1).trans hHeld.1, (hb3.cell (p := ⟨Xb, 1, none⟩) hHeld.2.2.2.2.2.2.2.2.2.1).trans hHeld.2.1, (hb3.cell (p := ⟨Xb, 2, none⟩) hHeld.2.2.2.2.2.2.2.2.2.1).trans hHeld.2.2.1, (hb3.cell (p := ⟨Xb, 3, none⟩) hHeld.2.2.2.2.2.2.2.2.2.1).trans hHeld.2.2.2.1, (hb3.cell (p := ⟨Xb, 4, none⟩) hHeld.2.2.2.2.2.2.2.2.2.1).trans hHeld.2.2.2.2.1, (hb3.cell (p := ⟨Xb, 5, none⟩) hHeld.2.2.2.2.2.2.2.2.2.1).trans hHeld.2.2.2.2.2.1, (hb3.cell (p := ⟨Xb, 6, none⟩) hHeld.2.2.2.2.2.2.2.2.2.1).trans hHeld.2.2.2.2.2.2.1, (hb3.cell (p := ⟨Xb, 7, none⟩) hHeld.2.2.2.2.2.2.2.2.2.1).trans hHeld.2.2.2.2.2.2.2.1, (hb3.cell (p := ⟨bl9, ol + k * 5 + 1, none⟩) hHeld.2.2.2.2.2.2.2.2.2.2.1).trans hHeld.2.2.2.2.2.2.2.2.1, Nat.lt_of_lt_of_le hHeld.2.2.2.2.2.2.2.2.2.1 hb3.size, Nat.lt_of_lt_of_le hHeld.2.2.2.2.2.2.2.2.2.2.1 hb3.size, below_on hHeld.2.2.2.2.2.2.2.2.2.2.2 hb3⟩) (fun hHeld => ?_)
        clear hK K
        try simp only [Act.put, List.setIfInBounds_toArray, List.set_cons_zero, List.set_cons_succ]
        refine held_on 7 (some 66) rfl rfl (by kernel_rfl) (by kernel_rfl) (by kernel_rfl) (fun _ _ _ h => h) (by rfl) hHeld (v := ?v16) ?y16 ?r16
        case y16 => intro w hSw; (try dsimp only at hSw); go_simp; (try with_reducible rfl)
        try simp only [Act.put, List.setIfInBounds_toArray, List.set_cons_zero, List.set_cons_succ]
        refine held_on 8 (some 74) rfl rfl (by kernel_rfl) (by kernel_rfl) (by kernel_rfl) (fun _ _ _ h => h) (by rfl) hHeld (v := ?v17) ?y17 ?r17
        case y17 => intro w hSw; (try dsimp only at hSw); go_simp; (try with_reducible rfl)
        try simp only [Act.put, List.setIfInBounds_toArray, List.set_cons_zero, List.set_cons_succ]
        refine held_on 9 (some 75) rfl rfl (by kernel_rfl) (by kernel_rfl) (by kernel_rfl) (fun _ _ _ h => h) (by rfl) hHeld (v := ?v18) ?y18 ?r18
        case y18 => intro w hSw; (try dsimp only at hSw); go_simp; (try with_reducible rfl)
        try simp only [Act.put, List.setIfInBounds_toArray, List.set_cons_zero, List.set_cons_succ]
        refine held_on 10 (some 13) rfl rfl (by kernel_rfl) (by kernel_rfl) (by kernel_rfl) (fun _ _ _ h => h) (by rfl) hHeld (v := ?v19) ?y19 ?r19
        case y19 => intro w hSw; (try dsimp only at hSw); go_simp; (try with_reducible rfl)
        try simp only [Act.put, List.setIfInBounds_toArray, List.set_cons_zero, List.set_cons_succ]
        refine held_on 11 (some 14) rfl rfl (by kernel_rfl) (by kernel_rfl) (by kernel_rfl) (fun _ _ _ h => h) (by rfl) hHeld (v := ?v20) ?y20 ?r20
        case y20 => intro w hSw; (try dsimp only at hSw); go_simp; (try with_reducible rfl)
        try simp only [Act.put, List.setIfInBounds_toArray, List.set_cons_zero, List.set_cons_succ]
        refine wpAnyH_done (by kernel_rfl) ?_ _
        have hb6 := hHeld.2.2.2.2.2.2.2.2.2.2.2
        clear x0 x1 x2 x3 x4 x5 x6 x7 xl hc0 hc1 hc2 hc3 hc4 hbl b0 b1 b2 b3 b4 b5 b6 bl hHeld
        replace hb := below_on hb hb6
        replace B0 := B0.keep hb6
        replace BX := BX.keep hb6
        replace hcf := hcf.keep hb6
        clear hb6
        obtain ⟨_, _, e9, hbl, hc0, hc1, hc2, hc3, hc4⟩ := planned_at (hS.keep hb) hLk
        obtain ⟨rfl, rfl⟩ : bl9 = _ ∧ ol = _ := by simpa using e9
        clear e9
        rw [HAT2.out] at hc0 hc1 hc2 hc3 hc4
        simp only at hc0 hc1 hc2 hc3 hc4
        generalize hnt : netOf x gq = nt at *
        have HG2 := HGL2
        clear hnt
        have y2 := B0.2 2 _ rfl
        have y3 := B0.2 3 _ rfl
        have yl := B0.1
        have x3 := BX.2 3 _ rfl
        have xl := BX.1
        rw [hkn.out] at x3
        have HWK : addWd p.wk p.ex ff.1 (-(kn : Int)) = wd := by rw [← hkn.out]; exact HWD.out
        have hng : IntKind.i64.wrap (-(kn : Int)) = -(kn : Int) := IntWalk.i64_in _ (by omega)
        go_upto_region 16 with fail
        have hwkF : IntsIn w6 a2 n2 p.wk := hp.wk.keep hb
        have hexF : ExsIn w6 a3 n3 p.ex := hp.ex.keep hb
        refine wp_region_held_drew (S := fun w' => w'.cell? ⟨Pb, 2, none⟩ = some (.slice a2 n2 c2) ∧ w'.cell? ⟨Pb, 3, none⟩ = some (.slice a3 n3 c3) ∧ w'.cell? ⟨Xb, 3, none⟩ = some (.int .i64 (kn : Int)) ∧ w'.cell? ⟨bl9, ol + k * 5 + 3, none⟩ = some (.int .i64 ff.1) ∧ Pb < w'.heap.size ∧ Xb < w'.heap.size ∧ bl9 < w'.heap.size ∧ Below w6.heap.size w6 w') (by kernel_rfl) (⟨y2, y3, x3, hc3, yl, xl, hbl, (Below.refl _ w6).drew⟩) (fun hHeld => ?_)
        refine held_on 0 (some 77) rfl rfl (by kernel_rfl) (by kernel_rfl) (by kernel_rfl) (fun _ _ _ h => h) (by rfl) hHeld (v := ?v21) ?y21 ?r21
        case y21 => intro w hSw; (try dsimp only at hSw); go_simp; (try with_reducible rfl)
        try simp only [Act.put, List.setIfInBounds_toArray, List.set_cons_zero, List.set_cons_succ]
        refine held_on 1 (some 78) rfl rfl (by kernel_rfl) (by kernel_rfl) (by kernel_rfl) (fun _ _ _ h => h) (by rfl) hHeld (v := ?v22) ?y22 ?r22
        case y22 => intro w hSw; (try dsimp only at hSw); go_simp; (try with_reducible rfl)
        try simp only [Act.put, List.setIfInBounds_toArray, List.set_cons_zero, List.set_cons_succ]
        refine held_on 2 (some 79) rfl rfl (by kernel_rfl) (by kernel_rfl) (by kernel_rfl) (fun _ _ _ h => h) (by rfl) hHeld (v := ?v23) ?y23 ?r23
        case y23 => intro w hSw; (try dsimp only at hSw); go_simp; (try with_reducible rfl)
        try simp only [Act.put, List.setIfInBounds_toArray, List.set_cons_zero, List.set_cons_succ]
        refine held_on 3 (some 80) rfl rfl (by kernel_rfl) (by kernel_rfl) (by kernel_rfl) (fun _ _ _ h => h) (by rfl) hHeld (v := ?v24) ?y24 ?r24
        case y24 => intro w hSw; (try dsimp only at hSw); go_simp; (try with_reducible rfl)
        try simp only [Act.put, List.setIfInBounds_toArray, List.set_cons_zero, List.set_cons_succ]
        refine held_on 4 (some 81) rfl rfl (by kernel_rfl) (by kernel_rfl) (by kernel_rfl) (fun _ _ _ h => h) (by rfl) hHeld (v := ?v25) ?y25 ?r25
        case y25 => intro w hSw; (try dsimp only at hSw); go_simp; (try with_reducible rfl)
        try simp only [Act.put, List.setIfInBounds_toArray, List.set_cons_zero, List.set_cons_succ]
        refine held_on 5 (some 82) rfl rfl (by kernel_rfl) (by kernel_rfl) (by kernel_rfl) (fun _ _ _ h => h) (by rfl) hHeld (v := ?v26) ?y26 ?r26
        case y26 => intro w hSw; (try dsimp only at hSw); go_simp; (try with_reducible rfl)
        try simp only [Act.put, List.setIfInBounds_toArray, List.set_cons_zero, List.set_cons_succ]
        refine held_on 6 (some 83) rfl rfl (by kernel_rfl) (by kernel_rfl) (by kernel_rfl) (fun _ _ _ h => h) (by rfl) hHeld (v := ?v27) ?y27 ?r27
        case y27 => intro w hSw; (try dsimp only at hSw); go_simp; (try with_reducible rfl)
        try simp only [Act.put, List.setIfInBounds_toArray, List.set_cons_zero, List.set_cons_succ]
        refine held_on 7 (some 84) rfl rfl (by kernel_rfl) (by kernel_rfl) (by kernel_rfl) (fun _ _ _ h => h) (by rfl) hHeld (v := ?v28) ?y28 ?r28
        case y28 => intro w hSw; (try dsimp only at hSw); go_simp; (try with_reducible rfl)
        try simp only [Act.put, List.setIfInBounds_toArray, List.set_cons_zero, List.set_cons_succ]
        refine held_on 8 (some 85) rfl rfl (by kernel_rfl) (by kernel_rfl) (by kernel_rfl) (fun _ _ _ h => h) (by rfl) hHeld (v := ?v29) ?y29 ?r29
        case y29 => intro w hSw; (try dsimp only at hSw); go_simp; (try with_reducible rfl)
        try simp only [Act.put, List.setIfInBounds_toArray, List.set_cons_zero, List.set_cons_succ]
        refine held_on 9 (some 86) rfl rfl (by kernel_rfl) (by kernel_rfl) (by kernel_rfl) (fun _ _ _ h => h) (by rfl) hHeld (v := ?v30) ?y30 ?r30
        case y30 => intro w hSw; (try dsimp only at hSw); go_simp; (try with_reducible rfl)
        try simp only [Act.put, List.setIfInBounds_toArray, List.set_cons_zero, List.set_cons_succ]
        refine wpAnyH_ready (rs := [10]) (by kernel_rfl) (by simp) ?_
        refine AllReadyH.cons rfl (fun K hK => ?_) AllReadyH.nil
        go_simp
        go_at_call 11
        refine (specAddWorkdays_any a2 a3 n2 n3 c2 c3 p.wk p.ex ff.1 kn _ (hwkF.keep hHeld.2.2.2.2.2.2.2) (hexF.keep hHeld.2.2.2.2.2.2.2) (by omega)).mono ?_
        rintro e w7 ⟨rfl, hb3⟩
        rw [HWK]
        go_simp
        refine hK.out _ _ (⟨(hb3.cell (p := ⟨Pb, 2, none⟩) hHeld.2.2.2.2.1).trans hHeld.1, (hb3.cell (p := ⟨Pb, 3, none⟩) hHeld.2.2.2.2.1).trans hHeld.2.1, (hb3.cell (p := ⟨Xb, 3, none⟩) hHeld.2.2.2.2.2.1).trans hHeld.2.2.1, (hb3.cell (p := ⟨bl9, ol + k * 5 + 3, none⟩) hHeld.2.2.2.2.2.2.1).trans hHeld.2.2.2.1, Nat.lt_of_lt_of_le hHeld.2.2.2.2.1 hb3.size, Nat.lt_of_lt_of_le hHeld.2.2.2.2.2.1 hb3.size, Nat.lt_of_lt_of_le hHeld.2.2.2.2.2.2.1 hb3.size, below_on hHeld.2.2.2.2.2.2.2 hb3⟩) (fun hHeld => ?_)
        clear hK K
        try simp only [Act.put, List.setIfInBounds_toArray, List.set_cons_zero, List.set_cons_succ]
        refine held_on 11 (some 76) rfl rfl (by kernel_rfl) (by kernel_rfl) (by kernel_rfl) (fun _ _ _ h => h) (by rfl) hHeld (v := ?v31) ?y31 ?r31
        case y31 => intro w hSw; (try dsimp only at hSw); go_simp; (try with_reducible rfl)
        try simp only [Act.put, List.setIfInBounds_toArray, List.set_cons_zero, List.set_cons_succ]
        refine held_on 12 (some 88) rfl rfl (by kernel_rfl) (by kernel_rfl) (by kernel_rfl) (fun _ _ _ h => h) (by rfl) hHeld (v := ?v32) ?y32 ?r32
        case y32 => intro w hSw; (try dsimp only at hSw); go_simp; (try with_reducible rfl)
        try simp only [Act.put, List.setIfInBounds_toArray, List.set_cons_zero, List.set_cons_succ]
        refine held_on 13 (some 89) rfl rfl (by kernel_rfl) (by kernel_rfl) (by kernel_rfl) (fun _ _ _ h => h) (by rfl) hHeld (v := ?v33) ?y33 ?r33
        case y33 => intro w hSw; (try dsimp only at hSw); go_simp; (try with_reducible rfl)
        try simp only [Act.put, List.setIfInBounds_toArray, List.set_cons_zero, List.set_cons_succ]
        refine held_on 14 (some 15) rfl rfl (by kernel_rfl) (by kernel_rfl) (by kernel_rfl) (fun _ _ _ h => h) (by rfl) hHeld (v := ?v34) ?y34 ?r34
        case y34 => intro w hSw; (try dsimp only at hSw); go_simp; (try with_reducible rfl)
        try simp only [Act.put, List.setIfInBounds_toArray, List.set_cons_zero, List.set_cons_succ]
        refine held_on 15 (some 16) rfl rfl (by kernel_rfl) (by kernel_rfl) (by kernel_rfl) (fun _ _ _ h => h) (by rfl) hHeld (v := ?v35) ?y35 ?r35
        case y35 => intro w hSw; (try dsimp only at hSw); go_simp; (try with_reducible rfl)
        try simp only [Act.put, List.setIfInBounds_toArray, List.set_cons_zero, List.set_cons_succ]
        refine wpAnyH_done (by kernel_rfl) ?_ _
        have hb7 := hHeld.2.2.2.2.2.2.2
        clear y2 y3 yl x3 xl hc0 hc1 hc2 hc3 hc4 hbl hHeld hwkF hexF
        clear HWK HWD
        replace hb := below_on hb hb7
        replace B0 := B0.keep hb7
        replace BX := BX.keep hb7
        replace hcf := hcf.keep hb7
        clear hb7
        obtain ⟨_, _, e9, hbl, hc0, hc1, hc2, hc3, hc4⟩ := planned_at (hS.keep hb) hLk
        obtain ⟨rfl, rfl⟩ : bl9 = _ ∧ ol = _ := by simpa using e9
        clear e9
        rw [HAT2.out] at hc0 hc1 hc2 hc3 hc4
        simp only at hc0 hc1 hc2 hc3 hc4
        clear HAT2 HAT1
        obtain ⟨wd1, wd2⟩ := wd
        simp only at hc0 hc1 hc2 hc3 hc4 ⊢
        have hseq : (s.toList == s.toList) = true := by simp
        have hs9 := below_alloc w7 (.cells #[.int .i64 ff.1, .int .i64 nt.1] 53)
        have hlit : FlowsIn (w7.alloc (.cells #[.int .i64 ff.1, .int .i64 nt.1] 53)) (some ⟨w7.heap.size, 0, none⟩) 1 [(ff.1, nt.1)] := lit_row (F := flF) rfl #[.int .i64 ff.1, .int .i64 nt.1] (ff.1, nt.1) rfl
        have hcf9 := hcf.keep hs9
        cases wd2
        all_goals
          go_wp2_with fail
          refine (specMergeFlows_any Ac (some ⟨w7.heap.size, 0, none⟩) _ 1 cc 1 come [(ff.1, nt.1)] _ hcf9 hlit).mono ?_
          rintro e w8 ⟨A8, c8, rfl, om, hs⟩
          have hm9 := hcm.out nt.1
          clear hlit hcf9 hc0 hc1 hc2 hc3 hc4 hbl
          have hbN := below_on (below_on hb hs9) hs
          generalize hmm : mergeFlows come [(ff.1, nt.1)] = mm at *
          have HMM := Lib.hid hmm
          clear hmm
          obtain ⟨next, mb⟩ := mm
          cases mb
          · go_wp2_with fail
            go_ret
            exact ⟨rfl, below_on hbD hbN⟩
          · have HCN : Hid (comes rcv lots (k + 1) next) := hm9 next HGL2.out rfl
            have hnl : next.length ≤ 40 := (areFlows_parts HCN.out.1).2
            dsimp only at om ⊢
            go_wp2_with fail
            go_roundw
            case rel => exact ⟨k + 1, next, A8, c8, by omega, by go_num, rfl, by omega, om.rows (by omega), HCN, (B0.keep hs9).keep hs, (BX.keep hs9).keep hs, hbN⟩
            case measure => simp [intOf]; omega
      obtain rfl : k = lots.length := by omega
      have HCV : Hid (isCovered come needs sk x.2.2.2.2.2.2.1 = true) := comes_covered HNET.out HLOT.out HC.out
      have hke : ¬ ((lots.length : Nat) : Int) < (L.length : Int) := by omega
      have hke2 : decide (((lots.length : Nat) : Int) < (L.length : Int)) = false := decide_eq_false hke
      have x6 := BX.2 6 _ rfl
      have xl := BX.1
      have hfW := hf.keep hb
      have hpW := hp.keep hb
      go_upto_region 23 with fail
      refine wp_region_held_drew (S := fun w' => w'.cell? ⟨Pb, 0, none⟩ = some (.slice (some ⟨bi, oi, none⟩) p.it.length c0) ∧ w'.cell? ⟨Pb, 1, none⟩ = some (.slice a1 n1 c1') ∧ w'.cell? ⟨Pb, 2, none⟩ = some (.slice a2 n2 c2) ∧ w'.cell? ⟨Pb, 3, none⟩ = some (.slice a3 n3 c3) ∧ w'.cell? ⟨Pb, 4, none⟩ = some (.slice a4 n4 c4) ∧ w'.cell? ⟨Pb, 5, none⟩ = some (.slice a5 n5 c5) ∧ w'.cell? ⟨Pb, 6, none⟩ = some (.slice a6 n6 c6) ∧ w'.cell? ⟨Xb, 6, none⟩ = some (.int .i64 x.2.2.2.2.2.2.1) ∧ Pb < w'.heap.size ∧ Xb < w'.heap.size ∧ Below wr.heap.size wr w') (by kernel_rfl) (⟨b0, b1, b2, b3, b4, b5, b6, x6, bl, xl, (Below.refl _ wr).drew⟩) (fun hHeld => ?_)
      refine held_on 0 (some 131) rfl rfl (by kernel_rfl) (by kernel_rfl) (by kernel_rfl) (fun _ _ _ h => h) (by rfl) hHeld (v := ?v36) ?y36 ?r36
      case y36 => intro w hSw; (try dsimp only at hSw); go_simp; (try with_reducible rfl)
      try simp only [Act.put, List.setIfInBounds_toArray, List.set_cons_zero, List.set_cons_succ]
      refine held_on 1 (some 132) rfl rfl (by kernel_rfl) (by kernel_rfl) (by kernel_rfl) (fun _ _ _ h => h) (by rfl) hHeld (v := ?v37) ?y37 ?r37
      case y37 => intro w hSw; (try dsimp only at hSw); go_simp; (try with_reducible rfl)
      try simp only [Act.put, List.setIfInBounds_toArray, List.set_cons_zero, List.set_cons_succ]
      refine held_on 3 (some 134) rfl rfl (by kernel_rfl) (by kernel_rfl) (by kernel_rfl) (fun _ _ _ h => h) (by rfl) hHeld (v := ?v38) ?y38 ?r38
      case y38 => intro w hSw; (try dsimp only at hSw); go_simp; (try with_reducible rfl)
      try simp only [Act.put, List.setIfInBounds_toArray, List.set_cons_zero, List.set_cons_succ]
      refine held_on 4 (some 135) rfl rfl (by kernel_rfl) (by kernel_rfl) (by kernel_rfl) (fun _ _ _ h => h) (by rfl) hHeld (v := ?v39) ?y39 ?r39
      case y39 => intro w hSw; (try dsimp only at hSw); go_simp; (try with_reducible rfl)
      try simp only [Act.put, List.setIfInBounds_toArray, List.set_cons_zero, List.set_cons_succ]
      refine wpAnyH_ready (rs := [2]) (by kernel_rfl) (by simp) ?_
      refine AllReadyH.cons rfl (fun K hK => ?_) AllReadyH.nil
      go_simp
      go_at_call 13
      refine (implStockOf_any (⟨⟨some ⟨bi, oi, none⟩, p.it.length, c0⟩, ⟨a1, n1, c1'⟩, ⟨a2, n2, c2⟩, ⟨a3, n3, c3⟩, ⟨a4, n4, c4⟩, ⟨a5, n5, c5⟩, ⟨a6, n6, c6⟩⟩ : PtR) p s _ (hpW.keep hHeld.2.2.2.2.2.2.2.2.2.2) HO.out hsz).mono ?_
      rintro e w6 ⟨rfl, hb3⟩
      rw [HSK.out]
      go_simp
      refine hK.out _ _ (⟨(hb3.cell (p := ⟨Pb, 0, none⟩) hHeld.2.2.2.2.2.2.2.2.1).trans hHeld.1, (hb3.cell (p := ⟨Pb, 1, none⟩) hHeld.2.2.2.2.2.2.2.2.1).trans hHeld.2.1, (hb3.cell (p := ⟨Pb, 2, none⟩) hHeld.2.2.2.2.2.2.2.2.1).trans hHeld.2.2.1, (hb3.cell (p := ⟨Pb, 3, none⟩) hHeld.2.2.2.2.2.2.2.2.1).trans hHeld.2.2.2.1, (hb3.cell (p := ⟨Pb, 4, none⟩) hHeld.2.2.2.2.2.2.2.2.1).trans hHeld.2.2.2.2.1, (hb3.cell (p := ⟨Pb, 5, none⟩) hHeld.2.2.2.2.2.2.2.2.1).trans hHeld.2.2.2.2.2.1, (hb3.cell (p := ⟨Pb, 6, none⟩) hHeld.2.2.2.2.2.2.2.2.1).trans hHeld.2.2.2.2.2.2.1, (hb3.cell (p := ⟨Xb, 6, none⟩) hHeld.2.2.2.2.2.2.2.2.2.1).trans hHeld.2.2.2.2.2.2.2.1, Nat.lt_of_lt_of_le hHeld.2.2.2.2.2.2.2.2.1 hb3.size, Nat.lt_of_lt_of_le hHeld.2.2.2.2.2.2.2.2.2.1 hb3.size, below_on hHeld.2.2.2.2.2.2.2.2.2.2 hb3⟩) (fun hHeld => ?_)
      clear hK K
      try simp only [Act.put, List.setIfInBounds_toArray, List.set_cons_zero, List.set_cons_succ]
      refine wpAnyH_ready (rs := [5]) (by kernel_rfl) (by simp) ?_
      refine AllReadyH.cons rfl (fun K hK => ?_) AllReadyH.nil
      go_simp
      go_at_call 14
      refine (specStockOf_any (⟨⟨some ⟨bi, oi, none⟩, p.it.length, c0⟩, ⟨a1, n1, c1'⟩, ⟨a2, n2, c2⟩, ⟨a3, n3, c3⟩, ⟨a4, n4, c4⟩, ⟨a5, n5, c5⟩, ⟨a6, n6, c6⟩⟩ : PtR) p s _ (hpW.keep hHeld.2.2.2.2.2.2.2.2.2.2) HO.out hsz).mono ?_
      rintro e w7 ⟨rfl, hb3⟩
      rw [HSK.out]
      go_simp
      refine hK.out _ _ (⟨(hb3.cell (p := ⟨Pb, 0, none⟩) hHeld.2.2.2.2.2.2.2.2.1).trans hHeld.1, (hb3.cell (p := ⟨Pb, 1, none⟩) hHeld.2.2.2.2.2.2.2.2.1).trans hHeld.2.1, (hb3.cell (p := ⟨Pb, 2, none⟩) hHeld.2.2.2.2.2.2.2.2.1).trans hHeld.2.2.1, (hb3.cell (p := ⟨Pb, 3, none⟩) hHeld.2.2.2.2.2.2.2.2.1).trans hHeld.2.2.2.1, (hb3.cell (p := ⟨Pb, 4, none⟩) hHeld.2.2.2.2.2.2.2.2.1).trans hHeld.2.2.2.2.1, (hb3.cell (p := ⟨Pb, 5, none⟩) hHeld.2.2.2.2.2.2.2.2.1).trans hHeld.2.2.2.2.2.1, (hb3.cell (p := ⟨Pb, 6, none⟩) hHeld.2.2.2.2.2.2.2.2.1).trans hHeld.2.2.2.2.2.2.1, (hb3.cell (p := ⟨Xb, 6, none⟩) hHeld.2.2.2.2.2.2.2.2.2.1).trans hHeld.2.2.2.2.2.2.2.1, Nat.lt_of_lt_of_le hHeld.2.2.2.2.2.2.2.2.1 hb3.size, Nat.lt_of_lt_of_le hHeld.2.2.2.2.2.2.2.2.2.1 hb3.size, below_on hHeld.2.2.2.2.2.2.2.2.2.2 hb3⟩) (fun hHeld => ?_)
      clear hK K
      try simp only [Act.put, List.setIfInBounds_toArray, List.set_cons_zero, List.set_cons_succ]
      refine held_on 6 (some 137) rfl rfl (by kernel_rfl) (by kernel_rfl) (by kernel_rfl) (fun _ _ _ h => h) (by rfl) hHeld (v := ?v40) ?y40 ?r40
      case y40 => intro w hSw; (try dsimp only at hSw); go_simp; (try with_reducible rfl)
      try simp only [Act.put, List.setIfInBounds_toArray, List.set_cons_zero, List.set_cons_succ]
      refine held_on 7 (some 138) rfl rfl (by kernel_rfl) (by kernel_rfl) (by kernel_rfl) (fun _ _ _ h => h) (by rfl) hHeld (v := ?v41) ?y41 ?r41
      case y41 => intro w hSw; (try dsimp only at hSw); go_simp; (try with_reducible rfl)
      try simp only [Act.put, List.setIfInBounds_toArray, List.set_cons_zero, List.set_cons_succ]
      refine held_on 8 (some 139) rfl rfl (by kernel_rfl) (by kernel_rfl) (by kernel_rfl) (fun _ _ _ h => h) (by rfl) hHeld (v := ?v42) ?y42 ?r42
      case y42 => intro w hSw; (try dsimp only at hSw); go_simp; (try with_reducible rfl)
      try simp only [Act.put, List.setIfInBounds_toArray, List.set_cons_zero, List.set_cons_succ]
      refine held_on 9 (some 140) rfl rfl (by kernel_rfl) (by kernel_rfl) (by kernel_rfl) (fun _ _ _ h => h) (by rfl) hHeld (v := ?v43) ?y43 ?r43
      case y43 => intro w hSw; (try dsimp only at hSw); go_simp; (try with_reducible rfl)
      try simp only [Act.put, List.setIfInBounds_toArray, List.set_cons_zero, List.set_cons_succ]
      refine held_on 11 (some 142) rfl rfl (by kernel_rfl) (by kernel_rfl) (by kernel_rfl) (fun _ _ _ h => h) (by rfl) hHeld (v := ?v44) ?y44 ?r44
      case y44 => intro w hSw; (try dsimp only at hSw); go_simp; (try with_reducible rfl)
      try simp only [Act.put, List.setIfInBounds_toArray, List.set_cons_zero, List.set_cons_succ]
      refine held_on 12 (some 143) rfl rfl (by kernel_rfl) (by kernel_rfl) (by kernel_rfl) (fun _ _ _ h => h) (by rfl) hHeld (v := ?v45) ?y45 ?r45
      case y45 => intro w hSw; (try dsimp only at hSw); go_simp; (try with_reducible rfl)
      try simp only [Act.put, List.setIfInBounds_toArray, List.set_cons_zero, List.set_cons_succ]
      refine held_on 13 (some 144) rfl rfl (by kernel_rfl) (by kernel_rfl) (by kernel_rfl) (fun _ _ _ h => h) (by rfl) hHeld (v := ?v46) ?y46 ?r46
      case y46 => intro w hSw; (try dsimp only at hSw); go_simp; (try with_reducible rfl)
      try simp only [Act.put, List.setIfInBounds_toArray, List.set_cons_zero, List.set_cons_succ]
      refine held_on 14 (some 145) rfl rfl (by kernel_rfl) (by kernel_rfl) (by kernel_rfl) (fun _ _ _ h => h) (by rfl) hHeld (v := ?v47) ?y47 ?r47
      case y47 => intro w hSw; (try dsimp only at hSw); go_simp; (try with_reducible rfl)
      try simp only [Act.put, List.setIfInBounds_toArray, List.set_cons_zero, List.set_cons_succ]
      refine wpAnyH_ready (rs := [10]) (by kernel_rfl) (by simp) ?_
      refine AllReadyH.cons rfl (fun K hK => ?_) AllReadyH.nil
      go_simp
      go_at_call 14
      refine (specStockOf_any (⟨⟨some ⟨bi, oi, none⟩, p.it.length, c0⟩, ⟨a1, n1, c1'⟩, ⟨a2, n2, c2⟩, ⟨a3, n3, c3⟩, ⟨a4, n4, c4⟩, ⟨a5, n5, c5⟩, ⟨a6, n6, c6⟩⟩ : PtR) p s _ (hpW.keep hHeld.2.2.2.2.2.2.2.2.2.2) HO.out hsz).mono ?_
      rintro e w8 ⟨rfl, hb3⟩
      rw [HSK.out]
      go_simp
      refine hK.out _ _ (⟨(hb3.cell (p := ⟨Pb, 0, none⟩) hHeld.2.2.2.2.2.2.2.2.1).trans hHeld.1, (hb3.cell (p := ⟨Pb, 1, none⟩) hHeld.2.2.2.2.2.2.2.2.1).trans hHeld.2.1, (hb3.cell (p := ⟨Pb, 2, none⟩) hHeld.2.2.2.2.2.2.2.2.1).trans hHeld.2.2.1, (hb3.cell (p := ⟨Pb, 3, none⟩) hHeld.2.2.2.2.2.2.2.2.1).trans hHeld.2.2.2.1, (hb3.cell (p := ⟨Pb, 4, none⟩) hHeld.2.2.2.2.2.2.2.2.1).trans hHeld.2.2.2.2.1, (hb3.cell (p := ⟨Pb, 5, none⟩) hHeld.2.2.2.2.2.2.2.2.1).trans hHeld.2.2.2.2.2.1, (hb3.cell (p := ⟨Pb, 6, none⟩) hHeld.2.2.2.2.2.2.2.2.1).trans hHeld.2.2.2.2.2.2.1, (hb3.cell (p := ⟨Xb, 6, none⟩) hHeld.2.2.2.2.2.2.2.2.2.1).trans hHeld.2.2.2.2.2.2.2.1, Nat.lt_of_lt_of_le hHeld.2.2.2.2.2.2.2.2.1 hb3.size, Nat.lt_of_lt_of_le hHeld.2.2.2.2.2.2.2.2.2.1 hb3.size, below_on hHeld.2.2.2.2.2.2.2.2.2.2 hb3⟩) (fun hHeld => ?_)
      clear hK K
      try simp only [Act.put, List.setIfInBounds_toArray, List.set_cons_zero, List.set_cons_succ]
      refine wpAnyH_ready (rs := [15]) (by kernel_rfl) (by simp) ?_
      refine AllReadyH.cons rfl (fun K hK => ?_) AllReadyH.nil
      go_simp
      go_at_call 15
      refine (specIsCovered_any Ac A1 come.length needs.length cc c1 come needs sk x.2.2.2.2.2.2.1 _ (hcf.keep hHeld.2.2.2.2.2.2.2.2.2.2) (hfW.keep hHeld.2.2.2.2.2.2.2.2.2.2)).mono ?_
      rintro e w9 ⟨rfl, hd9⟩
      have hb3 := hd9.below w8.heap.size
      rw [HCV.out]
      go_simp
      refine hK.out _ _ (⟨(hb3.cell (p := ⟨Pb, 0, none⟩) hHeld.2.2.2.2.2.2.2.2.1).trans hHeld.1, (hb3.cell (p := ⟨Pb, 1, none⟩) hHeld.2.2.2.2.2.2.2.2.1).trans hHeld.2.1, (hb3.cell (p := ⟨Pb, 2, none⟩) hHeld.2.2.2.2.2.2.2.2.1).trans hHeld.2.2.1, (hb3.cell (p := ⟨Pb, 3, none⟩) hHeld.2.2.2.2.2.2.2.2.1).trans hHeld.2.2.2.1, (hb3.cell (p := ⟨Pb, 4, none⟩) hHeld.2.2.2.2.2.2.2.2.1).trans hHeld.2.2.2.2.1, (hb3.cell (p := ⟨Pb, 5, none⟩) hHeld.2.2.2.2.2.2.2.2.1).trans hHeld.2.2.2.2.2.1, (hb3.cell (p := ⟨Pb, 6, none⟩) hHeld.2.2.2.2.2.2.2.2.1).trans hHeld.2.2.2.2.2.2.1, (hb3.cell (p := ⟨Xb, 6, none⟩) hHeld.2.2.2.2.2.2.2.2.2.1).trans hHeld.2.2.2.2.2.2.2.1, Nat.lt_of_lt_of_le hHeld.2.2.2.2.2.2.2.2.1 hb3.size, Nat.lt_of_lt_of_le hHeld.2.2.2.2.2.2.2.2.2.1 hb3.size, below_on hHeld.2.2.2.2.2.2.2.2.2.2 hb3⟩) (fun hHeld => ?_)
      clear hK K
      try simp only [Act.put, List.setIfInBounds_toArray, List.set_cons_zero, List.set_cons_succ]
      refine held_on 16 (some 147) rfl rfl (by kernel_rfl) (by kernel_rfl) (by kernel_rfl) (fun _ _ _ h => h) (by rfl) hHeld (v := ?v48) ?y48 ?r48
      case y48 => intro w hSw; (try dsimp only at hSw); go_simp; (try with_reducible rfl)
      try simp only [Act.put, List.setIfInBounds_toArray, List.set_cons_zero, List.set_cons_succ]
      refine held_on 17 (some 2) rfl rfl (by kernel_rfl) (by kernel_rfl) (by kernel_rfl) (fun _ _ _ h => h) (by rfl) hHeld (v := ?v49) ?y49 ?r49
      case y49 => intro w hSw; (try dsimp only at hSw); go_simp; (try with_reducible rfl)
      try simp only [Act.put, List.setIfInBounds_toArray, List.set_cons_zero, List.set_cons_succ]
      refine wpAnyH_done (by kernel_rfl) ?_ _
      have hbF := hHeld.2.2.2.2.2.2.2.2.2.2
      go_wp2_with fail
      go_ret
      exact ⟨rfl, below_on (below_on hbD hb) hbF⟩
end Go.Proofs.Ytpbibkjcjgggdaa
