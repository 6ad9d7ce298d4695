/- FnBalances: for every input the law returns true; its argument reads behind the call as before. No condition. -/
import Derived.Test.YtfjbliefcafiaaaBa19
import Derived.Test.YtfjbliefcafiaaaBa33
import Derived.Test.YtfjbliefcafiaaaBa22
import Derived.Deep.CutRange
import Derived.Test.YtfjbliefcafiaaaRows
import Derived.Test.YtfjbliefcafiaaaBa1
import Derived.ProofKit
import Derived.OpenShut
import Derived.ShutString
import Derived.ChangeOld
import Derived.Below
import Derived.Deep.Slices
import Derived.Deep.Fields
/- The walk of the law FnBalances: for every input it returns true, and no memory that was there is written. -/
namespace Go.Proofs.Ytfjbliefcafiaaa
open Go.RowKit
set_option maxRecDepth 100000 in
set_option maxHeartbeats 8000000 in
theorem lawBalances {w : World} (A : Option Addr) (n c : Nat) (l : List Int) (hl : n ≤ 1048576 → RowsIn byteF w A n l ∧ ∀ x ∈ l, okByte x) (hn : n ≤ 9223372036854775807) :
    Calls Try.prog 4 #[.slice A n c] w fun e w' => e = .returned (.bool true) ∧ Below w.heap.size w w' := by
  by_cases big : 1048576 < n
  · go_enter Try.func4, Try.ntmps4
    go_wp2_with fail
    refine (big_yes _ _ _ _ big hn).mono ?_
    rintro e w1 ⟨rfl, rfl⟩
    go_wp2_with fail
    go_ret
    exact ⟨rfl, Below.refl _ _⟩
  have hby := Lib.hid (hl (by omega))
  have hn9 : n ≤ 1048576 := by omega
  clear hl
  go_enter Try.func4, Try.ntmps4
  go_wp2_with fail
  refine (big_no _ _ _ _ big).mono ?_
  rintro e w1 ⟨rfl, rfl⟩
  go_wp2_with fail
  refine (DrawBalanceOn_any _ _ _ l _ hby.out.1 hby.out.2 hn9).mono ?_
  clear hby big hn9
  rintro e w1 ⟨r, p, ds, A1, c1', l, B1, d1, s, day, rfl, hok, hokd, hcap, hokl, hll, hsz, hday, hp, hds, hl, hbD⟩
  obtain ⟨⟨a0, n0, c0⟩, ⟨a1, n1, c1⟩, ⟨a2, n2, c2⟩, ⟨a3, n3, c3⟩, ⟨a4, n4, c4⟩, ⟨a5, n5, c5⟩, ⟨a6, n6, c6⟩⟩ := r
  have HO := Lib.hid hok
  have HOD := Lib.hid hokd
  have HOL := Lib.hid hokl
  clear hok hokd hokl
  have hn0 : n0 = p.it.length := hp.it.1
  subst hn0
  dsimp only [PtR.v]
  have hs := below_alloc w1 (.cells #[.slice a0 p.it.length c0, .slice a1 n1 c1, .slice a2 n2 c2, .slice a3 n3 c3, .slice a4 n4 c4, .slice a5 n5 c5, .slice a6 n6 c6] 34)
  have B0 : BoxOf (w1.alloc (.cells #[.slice a0 p.it.length c0, .slice a1 n1 c1, .slice a2 n2 c2, .slice a3 n3 c3, .slice a4 n4 c4, .slice a5 n5 c5, .slice a6 n6 c6] 34)) w1.heap.size [.slice a0 p.it.length c0, .slice a1 n1 c1, .slice a2 n2 c2, .slice a3 n3 c3, .slice a4 n4 c4, .slice a5 n5 c5, .slice a6 n6 c6] := boxOf_alloc w1 #[.slice a0 p.it.length c0, .slice a1 n1 c1, .slice a2 n2 c2, .slice a3 n3 c3, .slice a4 n4 c4, .slice a5 n5 c5, .slice a6 n6 c6] 34
  replace hp := hp.keep hs
  replace hds := RowsIn.keep hds hs
  replace hl := RowsIn.keep hl hs
  replace hbD := below_on hbD hs
  obtain ⟨b0, b1, b2, b3, b4, b5, b6, bl⟩ := B0.seven
  go_wp2_with fail
  generalize (w1.alloc (.cells #[.slice a0 p.it.length c0, .slice a1 n1 c1, .slice a2 n2 c2, .slice a3 n3 c3, .slice a4 n4 c4, .slice a5 n5 c5, .slice a6 n6 c6] 34)) = w2 at *
  generalize w1.heap.size = Pb at *
  clear hs
  refine (implBalanceOn_any (⟨⟨a0, p.it.length, c0⟩, ⟨a1, n1, c1⟩, ⟨a2, n2, c2⟩, ⟨a3, n3, c3⟩, ⟨a4, n4, c4⟩, ⟨a5, n5, c5⟩, ⟨a6, n6, c6⟩⟩ : PtR) p A1 B1 ds.length c1' l.length d1 ds l s day _ hp HO.out hds HOD.out hcap hl HOL.out hsz hday).mono ?_
  rintro e w3 ⟨rfl, hs⟩
  replace hp := hp.keep hs
  replace hds := hds.keep hs
  replace hl := hl.keep hs
  replace B0 := B0.keep hs
  replace hbD := below_on hbD hs
  clear hs
  clear b0 b1 b2 b3 b4 b5 b6 bl
  obtain ⟨b0, b1, b2, b3, b4, b5, b6, bl⟩ := B0.seven
  cases hflag : (takes p ds l s && !(phan p.it s))
  · have HNO := Lib.hid (balanceOn_no day hflag)
    rw [HNO.out]
    clear hflag
    dsimp only
    go_wp2_with fail
    refine (specBalanceOn_any (⟨⟨a0, p.it.length, c0⟩, ⟨a1, n1, c1⟩, ⟨a2, n2, c2⟩, ⟨a3, n3, c3⟩, ⟨a4, n4, c4⟩, ⟨a5, n5, c5⟩, ⟨a6, n6, c6⟩⟩ : PtR) p A1 B1 ds.length c1' l.length d1 ds l s day _ hp HO.out hds HOD.out hcap hl HOL.out hsz hday).mono ?_
    rintro e w4 ⟨rfl, hs⟩
    rw [HNO.out]
    replace hbD := below_on hbD hs
    dsimp only
    go_wp2_with fail
    go_ret
    exact ⟨rfl, hbD⟩
  simp only [Bool.and_eq_true, Bool.not_eq_true'] at hflag
  obtain ⟨hTK, hPH⟩ := hflag
  obtain ⟨t1, t2, t3, t4⟩ := takes_parts hTK
  have HTK := Lib.hid hTK
  obtain ⟨tn, htn⟩ : ∃ tn, prefS (takenOn p ds l s).1 (cutD day) = tn := ⟨_, rfl⟩
  have HTU : Hid (takenUpTo p ds l s day = (tn, true)) := by show _ = _; rw [takenUpTo_yes day hTK, htn]
  have htb := pref_le (takenOn p ds l s).1 (takenOn_days t1 t2).pos (cutD day)
  have hts := (takenOn_days (item := s) t1 t2).sum
  rw [htn] at htb
  obtain ⟨up, hup⟩ : ∃ up, upTo (receiptFlows p s) day = up := ⟨_, rfl⟩
  have hip := (arePlanned_parts t1).1
  obtain ⟨sk, hsk⟩ : ∃ sk, stockOf p s = sk := ⟨_, rfl⟩
  obtain ⟨nv, hnv⟩ : ∃ nv, sk + up - tn + goodTo p s day (l.take l.length) = nv := ⟨_, rfl⟩
  have HF : Hid (balanceOn p ds l s day = (nv, true)) := by
    show _ = _
    rw [balanceOn_yes day hTK hPH, htn, come_pref s day t1, hup, ← hnv, hsk, List.take_length]
    congr 1; omega
  have hsb := stockOf_bd p s
  rw [hsk] at hsb
  have hfb := areFlows_bd (areFlows_rc s hip) day (receiptFlows p s).length
  rw [List.take_length, hup] at hfb
  have hrl := receiptFlows_len p s
  have HFU : Hid (flowUpTo (receiptFlows p s) day = up) := by show _ = _; rw [flowUpTo_yes (areFlows_rc s hip)]; exact hup
  have HPP := Lib.hid (arePlanned_parts t1).2.2
  have h500 := (arePlanned_parts t1).2.1
  have HGB := Lib.hid (goodTo_bd p s day l (fun o ho => by obtain ⟨j, hj, rfl⟩ := List.mem_iff_getElem.1 ho; have := ((arePlanned_parts t1).2.2 j hj).2.2.1; omega))
  obtain ⟨qn, hqn⟩ : ∃ qn : Nat, findIt p.it s = (qn : Int) := ⟨(findIt p.it s).toNat, by omega⟩
  have q1 : qn < p.it.length := by have := findIt_lt t3; omega
  have HX0 := Lib.hid (planX_at hqn q1)
  have hokx := HO.out.it _ (List.getElem_mem q1)
  have HSK := Lib.hid hsk
  have HNV := Lib.hid hnv
  have HQN := Lib.hid hqn
  clear hTK hPH t1 t2 t3 t4 htn hup hip hsk hnv hqn
  rw [HF.out]
  dsimp only
  have hpI := hp.it
  go_wp2_with fail
  refine (specBalanceOn_any (⟨⟨a0, p.it.length, c0⟩, ⟨a1, n1, c1⟩, ⟨a2, n2, c2⟩, ⟨a3, n3, c3⟩, ⟨a4, n4, c4⟩, ⟨a5, n5, c5⟩, ⟨a6, n6, c6⟩⟩ : PtR) p A1 B1 ds.length c1' l.length d1 ds l s day _ hp HO.out hds HOD.out hcap hl HOL.out hsz hday).mono ?_
  rintro e w4 ⟨rfl, hs⟩
  rw [HF.out]
  dsimp only
  clear hpI
  replace hp := hp.keep hs
  replace hds := hds.keep hs
  replace hl := hl.keep hs
  replace B0 := B0.keep hs
  replace hbD := below_on hbD hs
  clear hs
  clear b0 b1 b2 b3 b4 b5 b6 bl HF
  obtain ⟨b0, b1, b2, b3, b4, b5, b6, bl⟩ := B0.seven
  go_wp2_with fail
  refine (implTakenUpTo_any (⟨⟨a0, p.it.length, c0⟩, ⟨a1, n1, c1⟩, ⟨a2, n2, c2⟩, ⟨a3, n3, c3⟩, ⟨a4, n4, c4⟩, ⟨a5, n5, c5⟩, ⟨a6, n6, c6⟩⟩ : PtR) p A1 B1 ds.length c1' l.length d1 ds l s day _ hp HO.out hds HOD.out hcap hl HOL.out hday).mono ?_
  rintro e w5 ⟨rfl, hs⟩
  rw [HTU.out]
  dsimp only
  replace hp := hp.keep hs
  replace hds := hds.keep hs
  replace hl := hl.keep hs
  replace B0 := B0.keep hs
  replace hbD := below_on hbD hs
  clear hs
  clear b0 b1 b2 b3 b4 b5 b6 bl HTU
  obtain ⟨b0, b1, b2, b3, b4, b5, b6, bl⟩ := B0.seven
  obtain ⟨bi, oi, hae, hbi, t0, t1, t2, t3, t4, t5, t6, t7⟩ := item_at hp.it q1
  simp only at hae
  subst hae
  obtain ⟨x, hx⟩ : ∃ x, p.it[qn] = x := ⟨_, rfl⟩
  rw [hx] at t0 t1 t2 t3 t4 t5 t6 t7 hokx
  have HXP : Hid (planX p s = x) := HX0.out.trans hx
  clear hx HX0
  have qi : (qn : Int) < (p.it.length : Int) := by omega
  have qi0 : (0 : Int) ≤ (qn : Int) := by omega
  have hpI : ItemsIn w5 (some ⟨bi, oi, none⟩) p.it.length p.it := hp.it
  have hpD : ItemsIn w5.drew (some ⟨bi, oi, none⟩) p.it.length p.it := hpI
  have hpA : ItemsIn (w5.alloc (.cells #[.string ⟨#[]⟩, .string ⟨#[]⟩, .int .i64 0, .int .i64 0, .int .i64 0, .int .i64 0, .int .i64 0, .int .i64 0] 47)).drew (some ⟨bi, oi, none⟩) p.it.length p.it := RowsIn.drew (w := w5.alloc (.cells #[.string ⟨#[]⟩, .string ⟨#[]⟩, .int .i64 0, .int .i64 0, .int .i64 0, .int .i64 0, .int .i64 0, .int .i64 0] 47)) (hpI.keep (below_alloc w5 (.cells #[.string ⟨#[]⟩, .string ⟨#[]⟩, .int .i64 0, .int .i64 0, .int .i64 0, .int .i64 0, .int .i64 0, .int .i64 0] 47)))
  go_upto_region 11 with fail
  go_cut [14] from 63 to 70 (fun v wx => ∃ Xb : Nat, v = .pointer (some ⟨Xb, 0, none⟩) ∧ BoxOf wx Xb [.string x.1, .string x.2.1, .int .i64 x.2.2.1, .int .i64 x.2.2.2.1, .int .i64 x.2.2.2.2.1, .int .i64 x.2.2.2.2.2.1, .int .i64 x.2.2.2.2.2.2.1, .int .i64 x.2.2.2.2.2.2.2] ∧ Below w5.heap.size w5 wx)
  case first =>
    refine wp_region_held_drew (S := fun w' => (w'.cell? ⟨Pb, 0, none⟩ = some (.slice (some ⟨bi, oi, none⟩) p.it.length c0) ∧ w'.cell? ⟨bi, oi + qn * 8, none⟩ = some (.string x.1) ∧ w'.cell? ⟨bi, oi + qn * 8 + 1, none⟩ = some (.string x.2.1) ∧ w'.cell? ⟨bi, oi + qn * 8 + 2, none⟩ = some (.int .i64 x.2.2.1) ∧ w'.cell? ⟨bi, oi + qn * 8 + 3, none⟩ = some (.int .i64 x.2.2.2.1) ∧ w'.cell? ⟨bi, oi + qn * 8 + 4, none⟩ = some (.int .i64 x.2.2.2.2.1) ∧ w'.cell? ⟨bi, oi + qn * 8 + 5, none⟩ = some (.int .i64 x.2.2.2.2.2.1) ∧ w'.cell? ⟨bi, oi + qn * 8 + 6, none⟩ = some (.int .i64 x.2.2.2.2.2.2.1) ∧ w'.cell? ⟨bi, oi + qn * 8 + 7, none⟩ = some (.int .i64 x.2.2.2.2.2.2.2)) ∧ Below w5.heap.size w5 w') (by kernel_rfl) (⟨⟨b0, t0, t1, t2, t3, t4, t5, t6, t7⟩, (Below.refl _ w5).drew⟩) (fun hHeld => ?_)
    refine held1 0 (some 63) hHeld ?_
    refine held1 1 (some 64) hHeld ?_
    refine held1 2 (some 65) hHeld ?_
    refine held1 3 (some 66) hHeld ?_
    refine held1 4 (some 67) hHeld ?_
    refine wpAnyH_ready (rs := [5, 8]) (by kernel_rfl) (by simp) ?_
    refine AllReadyH.cons rfl (fun K hK => ?_) (AllReadyH.cons rfl (fun K hK => ?_) (AllReadyH.nil))
    · skip
      go_simp
      go_at_call 11
      refine (specFindItem_any (some ⟨bi, oi, none⟩) p.it.length c0 p.it s _ hpD).mono ?_
      rintro e w' ⟨rfl, rfl⟩
      rw [HQN.out]
      go_simp
      refine hK.out _ _ (hHeld) (fun hHeld => ?_)
      clear hK K
      refine held1 6 (some 69) hHeld ?_
      refine held1 7 (some 70) hHeld ?_
      refine held_do 8 fun K hK => ?_
      go_simp
      refine hK.out _ _ (⟨⟨alloc_cell b0 (.cells #[.string ⟨#[]⟩, .string ⟨#[]⟩, .int .i64 0, .int .i64 0, .int .i64 0, .int .i64 0, .int .i64 0, .int .i64 0] 47), alloc_cell t0 (.cells #[.string ⟨#[]⟩, .string ⟨#[]⟩, .int .i64 0, .int .i64 0, .int .i64 0, .int .i64 0, .int .i64 0, .int .i64 0] 47), alloc_cell t1 (.cells #[.string ⟨#[]⟩, .string ⟨#[]⟩, .int .i64 0, .int .i64 0, .int .i64 0, .int .i64 0, .int .i64 0, .int .i64 0] 47), alloc_cell t2 (.cells #[.string ⟨#[]⟩, .string ⟨#[]⟩, .int .i64 0, .int .i64 0, .int .i64 0, .int .i64 0, .int .i64 0, .int .i64 0] 47), alloc_cell t3 (.cells #[.string ⟨#[]⟩, .string ⟨#[]⟩, .int .i64 0, .int .i64 0, .int .i64 0, .int .i64 0, .int .i64 0, .int .i64 0] 47), alloc_cell t4 (.cells #[.string ⟨#[]⟩, .string ⟨#[]⟩, .int .i64 0, .int .i64 0, .int .i64 0, .int .i64 0, .int .i64 0, .int .i64 0] 47), alloc_cell t5 (.cells #[.string ⟨#[]⟩, .string ⟨#[]⟩, .int .i64 0, .int .i64 0, .int .i64 0, .int .i64 0, .int .i64 0, .int .i64 0] 47), alloc_cell t6 (.cells #[.string ⟨#[]⟩, .string ⟨#[]⟩, .int .i64 0, .int .i64 0, .int .i64 0, .int .i64 0, .int .i64 0, .int .i64 0] 47), alloc_cell t7 (.cells #[.string ⟨#[]⟩, .string ⟨#[]⟩, .int .i64 0, .int .i64 0, .int .i64 0, .int .i64 0, .int .i64 0, .int .i64 0] 47)⟩, (below_alloc w5 (.cells #[.string ⟨#[]⟩, .string ⟨#[]⟩, .int .i64 0, .int .i64 0, .int .i64 0, .int .i64 0, .int .i64 0, .int .i64 0] 47)).drew⟩) (fun hHeld => ?_)
      clear hK K
      try simp only [Act.put, List.setIfInBounds_toArray, List.set_cons_zero, List.set_cons_succ]
      refine held_do 9 fun K hK => ?_
      go_simp
      refine hK.out _ _ (⟨⟨alloc_cell b0 (.cells #[.string x.1, .string x.2.1, .int .i64 x.2.2.1, .int .i64 x.2.2.2.1, .int .i64 x.2.2.2.2.1, .int .i64 x.2.2.2.2.2.1, .int .i64 x.2.2.2.2.2.2.1, .int .i64 x.2.2.2.2.2.2.2] 47), alloc_cell t0 (.cells #[.string x.1, .string x.2.1, .int .i64 x.2.2.1, .int .i64 x.2.2.2.1, .int .i64 x.2.2.2.2.1, .int .i64 x.2.2.2.2.2.1, .int .i64 x.2.2.2.2.2.2.1, .int .i64 x.2.2.2.2.2.2.2] 47), alloc_cell t1 (.cells #[.string x.1, .string x.2.1, .int .i64 x.2.2.1, .int .i64 x.2.2.2.1, .int .i64 x.2.2.2.2.1, .int .i64 x.2.2.2.2.2.1, .int .i64 x.2.2.2.2.2.2.1, .int .i64 x.2.2.2.2.2.2.2] 47), alloc_cell t2 (.cells #[.string x.1, .string x.2.1, .int .i64 x.2.2.1, .int .i64 x.2.2.2.1, .int .i64 x.2.2.2.2.1, .int .i64 x.2.2.2.2.2.1, .int .i64 x.2.2.2.2.2.2.1, .int .i64 x.2.2.2.2.2.2.2] 47), alloc_cell t3 (.cells #[.string x.1, .string x.2.1, .int .i64 x.2.2.1, .int .i64 x.2.2.2.1, .int .i64 x.2.2.2.2.1, .int .i64 x.2.2.2.2.2.1, .int .i64 x.2.2.2.2.2.2.1, .int .i64 x.2.2.2.2.2.2.2] 47), alloc_cell t4 (.cells #[.string x.1, .string x.2.1, .int .i64 x.2.2.1, .int .i64 x.2.2.2.1, .int .i64 x.2.2.2.2.1, .int .i64 x.2.2.2.2.2.1, .int .i64 x.2.2.2.2.2.2.1, .int .i64 x.2.2.2.2.2.2.2] 47), alloc_cell t5 (.cells #[.string x.1, .string x.2.1, .int .i64 x.2.2.1, .int .i64 x.2.2.2.1, .int .i64 x.2.2.2.2.1, .int .i64 x.2.2.2.2.2.1, .int .i64 x.2.2.2.2.2.2.1, .int .i64 x.2.2.2.2.2.2.2] 47), alloc_cell t6 (.cells #[.string x.1, .string x.2.1, .int .i64 x.2.2.1, .int .i64 x.2.2.2.1, .int .i64 x.2.2.2.2.1, .int .i64 x.2.2.2.2.2.1, .int .i64 x.2.2.2.2.2.2.1, .int .i64 x.2.2.2.2.2.2.2] 47), alloc_cell t7 (.cells #[.string x.1, .string x.2.1, .int .i64 x.2.2.1, .int .i64 x.2.2.2.1, .int .i64 x.2.2.2.2.1, .int .i64 x.2.2.2.2.2.1, .int .i64 x.2.2.2.2.2.2.1, .int .i64 x.2.2.2.2.2.2.2] 47)⟩, (below_alloc w5 (.cells #[.string x.1, .string x.2.1, .int .i64 x.2.2.1, .int .i64 x.2.2.2.1, .int .i64 x.2.2.2.2.1, .int .i64 x.2.2.2.2.2.1, .int .i64 x.2.2.2.2.2.2.1, .int .i64 x.2.2.2.2.2.2.2] 47)).drew⟩) (fun hHeld => ?_)
      clear hK K
      try simp only [Act.put, List.setIfInBounds_toArray, List.set_cons_zero, List.set_cons_succ]
      refine wpAnyH_done (by kernel_rfl) ?_ _
      go_wp2_with fail
      go_meet
      case rel => exact ⟨w5.heap.size, rfl, boxOf_alloc w5 #[.string x.1, .string x.2.1, .int .i64 x.2.2.1, .int .i64 x.2.2.2.1, .int .i64 x.2.2.2.2.1, .int .i64 x.2.2.2.2.2.1, .int .i64 x.2.2.2.2.2.2.1, .int .i64 x.2.2.2.2.2.2.2] 47, (below_alloc w5 (.cells #[.string x.1, .string x.2.1, .int .i64 x.2.2.1, .int .i64 x.2.2.2.1, .int .i64 x.2.2.2.2.1, .int .i64 x.2.2.2.2.2.1, .int .i64 x.2.2.2.2.2.2.1, .int .i64 x.2.2.2.2.2.2.2] 47)).drew⟩
    · skip
      go_simp
      refine hK.out _ _ (⟨⟨alloc_cell b0 (.cells #[.string ⟨#[]⟩, .string ⟨#[]⟩, .int .i64 0, .int .i64 0, .int .i64 0, .int .i64 0, .int .i64 0, .int .i64 0] 47), alloc_cell t0 (.cells #[.string ⟨#[]⟩, .string ⟨#[]⟩, .int .i64 0, .int .i64 0, .int .i64 0, .int .i64 0, .int .i64 0, .int .i64 0] 47), alloc_cell t1 (.cells #[.string ⟨#[]⟩, .string ⟨#[]⟩, .int .i64 0, .int .i64 0, .int .i64 0, .int .i64 0, .int .i64 0, .int .i64 0] 47), alloc_cell t2 (.cells #[.string ⟨#[]⟩, .string ⟨#[]⟩, .int .i64 0, .int .i64 0, .int .i64 0, .int .i64 0, .int .i64 0, .int .i64 0] 47), alloc_cell t3 (.cells #[.string ⟨#[]⟩, .string ⟨#[]⟩, .int .i64 0, .int .i64 0, .int .i64 0, .int .i64 0, .int .i64 0, .int .i64 0] 47), alloc_cell t4 (.cells #[.string ⟨#[]⟩, .string ⟨#[]⟩, .int .i64 0, .int .i64 0, .int .i64 0, .int .i64 0, .int .i64 0, .int .i64 0] 47), alloc_cell t5 (.cells #[.string ⟨#[]⟩, .string ⟨#[]⟩, .int .i64 0, .int .i64 0, .int .i64 0, .int .i64 0, .int .i64 0, .int .i64 0] 47), alloc_cell t6 (.cells #[.string ⟨#[]⟩, .string ⟨#[]⟩, .int .i64 0, .int .i64 0, .int .i64 0, .int .i64 0, .int .i64 0, .int .i64 0] 47), alloc_cell t7 (.cells #[.string ⟨#[]⟩, .string ⟨#[]⟩, .int .i64 0, .int .i64 0, .int .i64 0, .int .i64 0, .int .i64 0, .int .i64 0] 47)⟩, (below_alloc w5 (.cells #[.string ⟨#[]⟩, .string ⟨#[]⟩, .int .i64 0, .int .i64 0, .int .i64 0, .int .i64 0, .int .i64 0, .int .i64 0] 47)).drew⟩) (fun hHeld => ?_)
      clear hK K
      try simp only [Act.put, List.setIfInBounds_toArray, List.set_cons_zero, List.set_cons_succ]
      refine held_do 5 fun K hK => ?_
      go_simp
      go_at_call 11
      refine (specFindItem_any (some ⟨bi, oi, none⟩) p.it.length c0 p.it s _ hpA).mono ?_
      rintro e w' ⟨rfl, rfl⟩
      rw [HQN.out]
      go_simp
      refine hK.out _ _ (hHeld) (fun hHeld => ?_)
      clear hK K
      refine held1 6 (some 69) hHeld ?_
      refine held1 7 (some 70) hHeld ?_
      refine held_do 9 fun K hK => ?_
      go_simp
      refine hK.out _ _ (⟨⟨alloc_cell b0 (.cells #[.string x.1, .string x.2.1, .int .i64 x.2.2.1, .int .i64 x.2.2.2.1, .int .i64 x.2.2.2.2.1, .int .i64 x.2.2.2.2.2.1, .int .i64 x.2.2.2.2.2.2.1, .int .i64 x.2.2.2.2.2.2.2] 47), alloc_cell t0 (.cells #[.string x.1, .string x.2.1, .int .i64 x.2.2.1, .int .i64 x.2.2.2.1, .int .i64 x.2.2.2.2.1, .int .i64 x.2.2.2.2.2.1, .int .i64 x.2.2.2.2.2.2.1, .int .i64 x.2.2.2.2.2.2.2] 47), alloc_cell t1 (.cells #[.string x.1, .string x.2.1, .int .i64 x.2.2.1, .int .i64 x.2.2.2.1, .int .i64 x.2.2.2.2.1, .int .i64 x.2.2.2.2.2.1, .int .i64 x.2.2.2.2.2.2.1, .int .i64 x.2.2.2.2.2.2.2] 47), alloc_cell t2 (.cells #[.string x.1, .string x.2.1, .int .i64 x.2.2.1, .int .i64 x.2.2.2.1, .int .i64 x.2.2.2.2.1, .int .i64 x.2.2.2.2.2.1, .int .i64 x.2.2.2.2.2.2.1, .int .i64 x.2.2.2.2.2.2.2] 47), alloc_cell t3 (.cells #[.string x.1, .string x.2.1, .int .i64 x.2.2.1, .int .i64 x.2.2.2.1, .int .i64 x.2.2.2.2.1, .int .i64 x.2.2.2.2.2.1, .int .i64 x.2.2.2.2.2.2.1, .int .i64 x.2.2.2.2.2.2.2] 47), alloc_cell t4 (.cells #[.string x.1, .string x.2.1, .int .i64 x.2.2.1, .int .i64 x.2.2.2.1, .int .i64 x.2.2.2.2.1, .int .i64 x.2.2.2.2.2.1, .int .i64 x.2.2.2.2.2.2.1, .int .i64 x.2.2.2.2.2.2.2] 47), alloc_cell t5 (.cells #[.string x.1, .string x.2.1, .int .i64 x.2.2.1, .int .i64 x.2.2.2.1, .int .i64 x.2.2.2.2.1, .int .i64 x.2.2.2.2.2.1, .int .i64 x.2.2.2.2.2.2.1, .int .i64 x.2.2.2.2.2.2.2] 47), alloc_cell t6 (.cells #[.string x.1, .string x.2.1, .int .i64 x.2.2.1, .int .i64 x.2.2.2.1, .int .i64 x.2.2.2.2.1, .int .i64 x.2.2.2.2.2.1, .int .i64 x.2.2.2.2.2.2.1, .int .i64 x.2.2.2.2.2.2.2] 47), alloc_cell t7 (.cells #[.string x.1, .string x.2.1, .int .i64 x.2.2.1, .int .i64 x.2.2.2.1, .int .i64 x.2.2.2.2.1, .int .i64 x.2.2.2.2.2.1, .int .i64 x.2.2.2.2.2.2.1, .int .i64 x.2.2.2.2.2.2.2] 47)⟩, (below_alloc w5 (.cells #[.string x.1, .string x.2.1, .int .i64 x.2.2.1, .int .i64 x.2.2.2.1, .int .i64 x.2.2.2.2.1, .int .i64 x.2.2.2.2.2.1, .int .i64 x.2.2.2.2.2.2.1, .int .i64 x.2.2.2.2.2.2.2] 47)).drew⟩) (fun hHeld => ?_)
      clear hK K
      try simp only [Act.put, List.setIfInBounds_toArray, List.set_cons_zero, List.set_cons_succ]
      refine wpAnyH_done (by kernel_rfl) ?_ _
      go_wp2_with fail
      go_meet
      case rel => exact ⟨w5.heap.size, rfl, boxOf_alloc w5 #[.string x.1, .string x.2.1, .int .i64 x.2.2.1, .int .i64 x.2.2.2.1, .int .i64 x.2.2.2.2.1, .int .i64 x.2.2.2.2.2.1, .int .i64 x.2.2.2.2.2.2.1, .int .i64 x.2.2.2.2.2.2.2] 47, (below_alloc w5 (.cells #[.string x.1, .string x.2.1, .int .i64 x.2.2.1, .int .i64 x.2.2.2.1, .int .i64 x.2.2.2.2.1, .int .i64 x.2.2.2.2.2.1, .int .i64 x.2.2.2.2.2.2.1, .int .i64 x.2.2.2.2.2.2.2] 47)).drew⟩
  case rest =>
    obtain ⟨Xb, rfl, BX, hs⟩ := hcut
    replace hp := hp.keep hs
    replace hds := hds.keep hs
    replace hl := hl.keep hs
    replace B0 := B0.keep hs
    replace hbD := below_on hbD hs
    clear hs
    clear b0 b1 b2 b3 b4 b5 b6 bl t0 t1 t2 t3 t4 t5 t6 t7 hbi hpI hpD hpA qi qi0 q1
    obtain ⟨b0, b1, b2, b3, b4, b5, b6, bl⟩ := B0.seven
    have hw1 : IntKind.i64.wrap (sk + up) = sk + up := IntWalk.i64_in _ (by omega)
    have hw2 : IntKind.i64.wrap (sk + up - tn) = sk + up - tn := IntWalk.i64_in _ (by omega)
    go_wp2_with fail
    have hpW := hp
    refine wp_region_held_drew (S := fun w' => w'.cell? ⟨Pb, 0, none⟩ = some (.slice (some ⟨bi, oi, none⟩) p.it.length c0) ∧ w'.cell? ⟨Pb, 1, none⟩ = some (.slice a1 n1 c1) ∧ w'.cell? ⟨Pb, 2, none⟩ = some (.slice a2 n2 c2) ∧ w'.cell? ⟨Pb, 3, none⟩ = some (.slice a3 n3 c3) ∧ w'.cell? ⟨Pb, 4, none⟩ = some (.slice a4 n4 c4) ∧ w'.cell? ⟨Pb, 5, none⟩ = some (.slice a5 n5 c5) ∧ w'.cell? ⟨Pb, 6, none⟩ = some (.slice a6 n6 c6) ∧ Pb < w'.heap.size ∧ Below wc.heap.size wc w') (by kernel_rfl) (⟨b0, b1, b2, b3, b4, b5, b6, bl, (Below.refl _ wc).drew⟩) (fun hHeld => ?_)
    refine held1 0 (some 71) hHeld ?_
    refine held1 1 (some 72) hHeld ?_
    refine held1 3 (some 74) hHeld ?_
    refine held1 4 (some 75) hHeld ?_
    refine held1 6 (some 77) hHeld ?_
    refine held1 9 (some 80) hHeld ?_
    refine held_do 2 fun K hK => ?_
    go_simp
    go_at_call 15
    refine (specStockOf_any (⟨⟨some ⟨bi, oi, none⟩, p.it.length, c0⟩, ⟨a1, n1, c1⟩, ⟨a2, n2, c2⟩, ⟨a3, n3, c3⟩, ⟨a4, n4, c4⟩, ⟨a5, n5, c5⟩, ⟨a6, n6, c6⟩⟩ : PtR) p s _ (hpW.keep hHeld.2.2.2.2.2.2.2.2) HO.out hsz).mono ?_
    rintro e w6 ⟨rfl, hb3⟩
    rw [HSK.out]
    go_simp
    refine hK.out _ _ (⟨(hb3.cell (p := ⟨Pb, 0, none⟩) hHeld.2.2.2.2.2.2.2.1).trans hHeld.1, (hb3.cell (p := ⟨Pb, 1, none⟩) hHeld.2.2.2.2.2.2.2.1).trans hHeld.2.1, (hb3.cell (p := ⟨Pb, 2, none⟩) hHeld.2.2.2.2.2.2.2.1).trans hHeld.2.2.1, (hb3.cell (p := ⟨Pb, 3, none⟩) hHeld.2.2.2.2.2.2.2.1).trans hHeld.2.2.2.1, (hb3.cell (p := ⟨Pb, 4, none⟩) hHeld.2.2.2.2.2.2.2.1).trans hHeld.2.2.2.2.1, (hb3.cell (p := ⟨Pb, 5, none⟩) hHeld.2.2.2.2.2.2.2.1).trans hHeld.2.2.2.2.2.1, (hb3.cell (p := ⟨Pb, 6, none⟩) hHeld.2.2.2.2.2.2.2.1).trans hHeld.2.2.2.2.2.2.1, Nat.lt_of_lt_of_le hHeld.2.2.2.2.2.2.2.1 hb3.size, below_on hHeld.2.2.2.2.2.2.2.2 hb3⟩) (fun hHeld => ?_)
    clear hK K
    try simp only [Act.put, List.setIfInBounds_toArray, List.set_cons_zero, List.set_cons_succ]
    refine held_do 5 fun K hK => ?_
    go_simp
    go_at_call 17
    refine (specReceiptFlows_any (⟨⟨some ⟨bi, oi, none⟩, p.it.length, c0⟩, ⟨a1, n1, c1⟩, ⟨a2, n2, c2⟩, ⟨a3, n3, c3⟩, ⟨a4, n4, c4⟩, ⟨a5, n5, c5⟩, ⟨a6, n6, c6⟩⟩ : PtR) p s _ (hpW.keep hHeld.2.2.2.2.2.2.2.2) HO.out hsz).mono ?_
    rintro e w7 ⟨A9, c9, rfl, orc, hb3⟩
    have hrf : FlowsIn w7 A9 (receiptFlows p s).length (receiptFlows p s) := orc.rows (by omega)
    clear orc
    go_simp
    refine hK.out _ _ (⟨(hb3.cell (p := ⟨Pb, 0, none⟩) hHeld.2.2.2.2.2.2.2.1).trans hHeld.1, (hb3.cell (p := ⟨Pb, 1, none⟩) hHeld.2.2.2.2.2.2.2.1).trans hHeld.2.1, (hb3.cell (p := ⟨Pb, 2, none⟩) hHeld.2.2.2.2.2.2.2.1).trans hHeld.2.2.1, (hb3.cell (p := ⟨Pb, 3, none⟩) hHeld.2.2.2.2.2.2.2.1).trans hHeld.2.2.2.1, (hb3.cell (p := ⟨Pb, 4, none⟩) hHeld.2.2.2.2.2.2.2.1).trans hHeld.2.2.2.2.1, (hb3.cell (p := ⟨Pb, 5, none⟩) hHeld.2.2.2.2.2.2.2.1).trans hHeld.2.2.2.2.2.1, (hb3.cell (p := ⟨Pb, 6, none⟩) hHeld.2.2.2.2.2.2.2.1).trans hHeld.2.2.2.2.2.2.1, Nat.lt_of_lt_of_le hHeld.2.2.2.2.2.2.2.1 hb3.size, below_on hHeld.2.2.2.2.2.2.2.2 hb3⟩) (fun hHeld => ?_)
    clear hK K
    try simp only [Act.put, List.setIfInBounds_toArray, List.set_cons_zero, List.set_cons_succ]
    refine held_do 7 fun K hK => ?_
    go_simp
    go_at_call 16
    refine (specFlowUpTo_any A9 (receiptFlows p s).length c9 (receiptFlows p s) day _ hrf).mono ?_
    rintro e w9 ⟨rfl, hd9⟩
    have hb3 := hd9.below w7.heap.size
    rw [HFU.out]
    go_simp
    refine hK.out _ _ (⟨(hb3.cell (p := ⟨Pb, 0, none⟩) hHeld.2.2.2.2.2.2.2.1).trans hHeld.1, (hb3.cell (p := ⟨Pb, 1, none⟩) hHeld.2.2.2.2.2.2.2.1).trans hHeld.2.1, (hb3.cell (p := ⟨Pb, 2, none⟩) hHeld.2.2.2.2.2.2.2.1).trans hHeld.2.2.1, (hb3.cell (p := ⟨Pb, 3, none⟩) hHeld.2.2.2.2.2.2.2.1).trans hHeld.2.2.2.1, (hb3.cell (p := ⟨Pb, 4, none⟩) hHeld.2.2.2.2.2.2.2.1).trans hHeld.2.2.2.2.1, (hb3.cell (p := ⟨Pb, 5, none⟩) hHeld.2.2.2.2.2.2.2.1).trans hHeld.2.2.2.2.2.1, (hb3.cell (p := ⟨Pb, 6, none⟩) hHeld.2.2.2.2.2.2.2.1).trans hHeld.2.2.2.2.2.2.1, Nat.lt_of_lt_of_le hHeld.2.2.2.2.2.2.2.1 hb3.size, below_on hHeld.2.2.2.2.2.2.2.2 hb3⟩) (fun hHeld => ?_)
    clear hK K
    refine held1 8 (some 79) hHeld ?_
    refine held1 10 (some 81) hHeld ?_
    refine held1 11 (some 15) hHeld ?_
    refine wpAnyH_done (by kernel_rfl) ?_ _
    have hs := hHeld.2.2.2.2.2.2.2.2
    clear hHeld hrf hpW b0 b1 b2 b3 b4 b5 b6 bl
    replace hp := hp.keep hs
    replace hds := hds.keep hs
    replace hl := hl.keep hs
    replace B0 := B0.keep hs
    replace BX := BX.keep hs
    replace hbD := below_on hbD hs
    clear hs
    clear HSK HFU
    have HG0 : Hid (goodTo p s day (l.take 0) = 0) := rfl
    go_wp2_with fail
    go_loopw [15, 16] (fun v i wr => ∃ k : Nat, k ≤ l.length ∧ i = .int .i64 k ∧ v = .int .i64 (sk + up - tn + goodTo p s day (l.take k)) ∧ BoxOf wr Xb [.string x.1, .string x.2.1, .int .i64 x.2.2.1, .int .i64 x.2.2.2.1, .int .i64 x.2.2.2.2.1, .int .i64 x.2.2.2.2.2.1, .int .i64 x.2.2.2.2.2.2.1, .int .i64 x.2.2.2.2.2.2.2] ∧ Below w9.heap.size w9 wr) (fun _ i _ => l.length - (intOf i).toNat)
    case atStart => exact ⟨0, by omega, rfl, by rw [HG0.out, Int.add_zero], BX, Below.refl _ _⟩
    case round =>
      clear BX HG0
      obtain ⟨k, hk, rfl, rfl, BX, hb⟩ := hrel
      by_cases hlt : k < l.length
      case neg =>
        obtain rfl : k = l.length := by omega
        rw [HNV.out]
        go_wp2_with fail
        go_ret
        exact ⟨by simp, below_on hbD hb⟩
      have ki : (k : Int) < (l.length : Int) := by omega
      have hwk : IntKind.i64.wrap ((k : Int) + 1) = (k : Int) + 1 := IntWalk.i64_in _ (by omega)
      obtain ⟨b, o, rfl, hbl, hc0, hc1, hc2, hc3, hc4⟩ := planned_at (RowsIn.keep hl hb) hlt
      have HGT := Lib.hid (goodTo_take p s day l k hlt)
      have hg0 := HGB.out k
      have hg1 := HGB.out (k + 1)
      obtain ⟨z1, z2, ⟨z3, z4⟩, ⟨z5, z6⟩, z7, z8⟩ := HPP.out k hlt
      generalize goodTo p s day (l.take k) = gs at *
      cases heq : (l[k].1.toList == s.toList)
      case false =>
        have HNO : Hid (goodTo p s day (l.take (k + 1)) = gs) := by show _ = _; rw [HGT.out, if_neg (by unfold isOf; rw [heq]; simp), Int.add_zero]
        go_wp2_with fail
        go_roundw
        case rel => exact ⟨k + 1, by omega, by go_num, by rw [HNO.out], BX, hb⟩
        case measure => simp [intOf]; omega
      by_cases hdue : l[k].2.2.2.1 ≤ day
      case neg =>
        have hdd : decide (l[k].2.2.2.1 ≤ day) = false := decide_eq_false hdue
        have HNO : Hid (goodTo p s day (l.take (k + 1)) = gs) := by show _ = _; rw [HGT.out, if_neg (by rw [decide_eq_false (by omega)]; simp), Int.add_zero]
        go_wp2_with fail
        go_roundw
        case rel => exact ⟨k + 1, by omega, by go_num, by rw [HNO.out], BX, hb⟩
        case measure => simp [intOf]; omega
      have hgd := netOf_bd x l[k].2.1 (by omega)
      have HYS : Hid (goodTo p s day (l.take (k + 1)) = gs + (netOf x l[k].2.1).1) := by show _ = _; rw [HGT.out, if_pos (by unfold isOf; rw [heq, decide_eq_true hdue]; rfl)]; unfold goodOf; rw [HXP.out]
      have x0 := BX.2 0 _ rfl
      have x1 := BX.2 1 _ rfl
      have x2 := BX.2 2 _ rfl
      have x3 := BX.2 3 _ rfl
      have x4 := BX.2 4 _ rfl
      have x5 := BX.2 5 _ rfl
      have x6 := BX.2 6 _ rfl
      have x7 := BX.2 7 _ rfl
      have xl := BX.1
      generalize l[k].2.1 = gq at *
      go_wp2_with fail
      clear hc0 hc2 hc3 hc4
      refine wp_region_held_drew (S := fun w' => w'.cell? ⟨Xb, 0, none⟩ = some (.string x.1) ∧ w'.cell? ⟨Xb, 1, none⟩ = some (.string x.2.1) ∧ w'.cell? ⟨Xb, 2, none⟩ = some (.int .i64 x.2.2.1) ∧ w'.cell? ⟨Xb, 3, none⟩ = some (.int .i64 x.2.2.2.1) ∧ w'.cell? ⟨Xb, 4, none⟩ = some (.int .i64 x.2.2.2.2.1) ∧ w'.cell? ⟨Xb, 5, none⟩ = some (.int .i64 x.2.2.2.2.2.1) ∧ w'.cell? ⟨Xb, 6, none⟩ = some (.int .i64 x.2.2.2.2.2.2.1) ∧ w'.cell? ⟨Xb, 7, none⟩ = some (.int .i64 x.2.2.2.2.2.2.2) ∧ w'.cell? ⟨b, o + k * 5 + 1, none⟩ = some (.int .i64 gq) ∧ Xb < w'.heap.size ∧ b < w'.heap.size ∧ Below wr.heap.size wr w') (by kernel_rfl) (⟨x0, x1, x2, x3, x4, x5, x6, x7, hc1, xl, hbl, (Below.refl _ wr).drew⟩) (fun hHeld => ?_)
      refine held1 0 (some 105) hHeld ?_
      refine held1 1 (some 106) hHeld ?_
      refine held1 2 (some 107) hHeld ?_
      refine held1 3 (some 108) hHeld ?_
      refine held1 4 (some 109) hHeld ?_
      refine held1 5 (some 110) hHeld ?_
      refine held_do 6 fun K hK => ?_
      go_simp
      go_at_call 18
      refine (specNetOf_any x gq _ hokx).mono ?_
      rintro e w6 ⟨rfl, hb3⟩
      go_simp
      refine hK.out _ _ (⟨(hb3.cell (p := ⟨Xb, 0, none⟩) hHeld.2.2.2.2.2.2.2.2.2.1).trans hHeld.1, (hb3.cell (p := ⟨Xb, 1, none⟩) hHeld.2.2.2.2.2.2.2.2.2.1).trans hHeld.2.1, (hb3.cell (p := ⟨Xb, 2, none⟩) hHeld.2.2.2.2.2.2.2.2.2.1).trans hHeld.2.2.1, (hb3.cell (p := ⟨Xb, 3, none⟩) hHeld.2.2.2.2.2.2.2.2.2.1).trans hHeld.2.2.2.1, (hb3.cell (p := ⟨Xb, 4, none⟩) hHeld.2.2.2.2.2.2.2.2.2.1).trans hHeld.2.2.2.2.1, (hb3.cell (p := ⟨Xb, 5, none⟩) hHeld.2.2.2.2.2.2.2.2.2.1).trans hHeld.2.2.2.2.2.1, (hb3.cell (p := ⟨Xb, 6, none⟩) hHeld.2.2.2.2.2.2.2.2.2.1).trans hHeld.2.2.2.2.2.2.1, (hb3.cell (p := ⟨Xb, 7, none⟩) hHeld.2.2.2.2.2.2.2.2.2.1).trans hHeld.2.2.2.2.2.2.2.1, (hb3.cell (p := ⟨b, o + k * 5 + 1, none⟩) hHeld.2.2.2.2.2.2.2.2.2.2.1).trans hHeld.2.2.2.2.2.2.2.2.1, Nat.lt_of_lt_of_le hHeld.2.2.2.2.2.2.2.2.2.1 hb3.size, Nat.lt_of_lt_of_le hHeld.2.2.2.2.2.2.2.2.2.2.1 hb3.size, below_on hHeld.2.2.2.2.2.2.2.2.2.2.2 hb3⟩) (fun hHeld => ?_)
      clear hK K
      refine held1 7 (some 104) hHeld ?_
      refine held1 8 (some 112) hHeld ?_
      refine held1 9 (some 113) hHeld ?_
      refine held1 10 (some 17) hHeld ?_
      refine held1 11 (some 18) hHeld ?_
      refine wpAnyH_done (by kernel_rfl) ?_ _
      have hs := hHeld.2.2.2.2.2.2.2.2.2.2.2
      clear hHeld x0 x1 x2 x3 x4 x5 x6 x7 xl hc1 hbl
      replace hb := below_on hb hs
      replace BX := BX.keep hs
      clear hs
      generalize hgg : netOf x gq = gg at *
      have hw3 : IntKind.i64.wrap (sk + up - tn + gs + gg.1) = sk + up - tn + gs + gg.1 := IntWalk.i64_in _ (by omega)
      have HYS2 : Hid (goodTo p s day (l.take (k + 1)) = gs + gg.1) := HYS.out
      clear HYS hgg
      obtain ⟨g1v, g2v⟩ := gg
      dsimp only at hw3 HYS2 hgd ⊢
      go_wp2_with fail
      go_roundw
      case rel => exact ⟨k + 1, by omega, by go_num, by rw [HYS2.out, Int.add_assoc], BX, hb⟩
      case measure => simp [intOf]; omega
end Go.Proofs.Ytfjbliefcafiaaa
/- From the reading of a law's arguments to what the walks ask of them. -/
namespace Go.Proofs.Ytfjbliefcafiaaa
open Go.ChangeShapes Go.WideShapes Go.ChangeAt Go.RowKit Go.Deep
theorem own : ownKnob Try.prog.godebug = none := by kernel_rfl
theorem laidOut : laidOutB Try.prog = true := by kernel_rfl
theorem lt_of_cell {w : World} {a : Addr} {v : Value} (h : w.cell? a = some v) : a.block < w.heap.size := by
  rcases Nat.lt_or_ge a.block w.heap.size with h1 | h1
  · exact h1
  · unfold World.cell? at h; rw [Array.getElem?_eq_none h1] at h; cases h
theorem spot_of_cell {w : World} {a : Addr} {v : Value} (h : w.cell? a = some v) : a = ⟨a.block, a.off, none⟩ := by
  have := World.cell?_spot h
  cases a
  simp_all

theorem choose_list {α : Type} (n : Nat) (p : Nat → α → Prop) (h : ∀ i < n, ∃ a, p i a) : ∃ l : List α, l.length = n ∧ ∀ i (hi : i < l.length), p i l[i] := by
  induction n with
  | zero => exact ⟨[], rfl, fun i hi => absurd hi (by simp)⟩
  | succ n ih =>
    obtain ⟨l, hl, hp⟩ := ih (fun i hi => h i (by omega))
    obtain ⟨a, ha⟩ := h n (by omega)
    refine ⟨l ++ [a], by simp [hl], fun i hi => ?_⟩
    simp at hi
    rcases Nat.lt_or_ge i l.length with h1 | h1
    · rw [List.getElem_append_left h1]; exact hp i h1
    · obtain rfl : i = l.length := by omega
      rw [List.getElem_append_right (Nat.le_refl _)]
      simp only [Nat.sub_self, List.getElem_cons_zero]
      rw [hl]; exact ha
/-- Rows out of their elements' cells. -/
theorem rowsIn_of {α : Type} (F : Flat α) (hsz : 0 < F.sz) (W : World) (b o n : Nat) (l : List α) (hl : l.length = n) (hn : n ≤ 16777216) (hb : 0 < n → b < W.heap.size)
    (hc : ∀ i (hi : i < l.length) j, j < F.sz → W.cell? ⟨b, o + (i * F.sz + j), none⟩ = (F.enc l[i])[j]?) : RowsIn F W (some ⟨b, o, none⟩) n l := by
  refine ⟨hl.symm, by rw [flatMap_len F.enc F.sz F.len, hl], hn, fun hpos => ⟨b, o, rfl, hb hpos, fun j u hu => ?_⟩⟩
  have hj : j < (l.flatMap F.enc).length := (List.getElem?_eq_some_iff.1 hu).1
  rw [flatMap_len F.enc F.sz F.len] at hj
  have h1 : j / F.sz < l.length := Nat.div_lt_of_lt_mul (by rw [Nat.mul_comm]; exact hj)
  have h2 : j % F.sz < F.sz := Nat.mod_lt _ hsz
  have h3 : j / F.sz * F.sz + j % F.sz = j := by rw [Nat.mul_comm]; exact Nat.div_add_mod j F.sz
  have h4 := flatMap_at F.enc F.sz F.len l (j / F.sz) (j % F.sz) h1 h2
  rw [h3, hu] at h4
  have h5 := hc (j / F.sz) h1 (j % F.sz) h2
  rw [h3] at h5
  rw [h5, ← h4]

theorem open_rows_ok {α : Type} (F : Flat α) (ok : α → Prop) {H : Type} {enc : TypeId × Value → H} {W : World} {t e : TypeId} {a : Option Addr} {len cap : Nat} {d : DataW H} {p : List MemPlace}
    (ht : Try.prog.underlying t = some (.slice e)) (hC : Try.prog.cellsOf e = F.sz) (hsz : 0 < F.sz)
    (hdec : ∀ fuel cs x, DataW.trod enc Try.prog W 0 (fun _ => true) true fuel e cs = some x → ∃ a, cs = F.enc a ∧ ok a)
    (h : DataW.Trod enc Try.prog W 0 (fun _ => true) true t (.slice a len cap) d p) : len ≤ 9223372036854775807 ∧ ∃ l, len ≤ 1048576 → RowsIn F W a len l ∧ ∀ x ∈ l, ok x := by
  obtain ⟨fuel, hf⟩ := h
  rcases open_slice ht hf with ⟨hcs, _⟩ | ⟨x, l, c, m, n, D, Pl, hcs, _, hl, hm, hmm, _, hi⟩
  · simp [Value.cells] at hcs
    obtain ⟨rfl, rfl, rfl⟩ := hcs
    exact ⟨by omega, [], fun _ => ⟨⟨rfl, Sl.nil _ _ _⟩, by simp⟩⟩
  · simp [Value.cells] at hcs
    obtain ⟨rfl, rfl, rfl⟩ := hcs
    simp at hmm
    obtain ⟨L, hL, hp⟩ := choose_list len (fun i a => W.cells? 0 (x.add (i * F.sz)) F.sz = some (F.enc a) ∧ ok a) (fun i hlt => by
      obtain ⟨cs', h1, h2⟩ := hi i (by omega)
      rw [hC] at h1
      obtain ⟨a, rfl, hk⟩ := hdec _ _ _ h2
      exact ⟨a, h1, hk⟩)
    refine ⟨by unfold maxLen at hm; omega, L, fun hle => ⟨?_, fun y hy => by
      obtain ⟨i, hi, rfl⟩ := List.getElem_of_mem hy
      exact (hp i hi).2⟩⟩
    by_cases h0 : len = 0
    · subst h0
      have : L = [] := List.eq_nil_of_length_eq_zero hL
      subst this
      exact ⟨rfl, Sl.nil _ _ _⟩
    · have hcell : ∀ i (hi : i < L.length) j, j < F.sz → W.cell? (x.add (i * F.sz + j)) = (F.enc L[i])[j]? := fun i hi j hj => by
        obtain ⟨_, _, h3⟩ := World.cells?_some (hp i hi).1
        have := h3 j hj
        rwa [add_add] at this
      have h00 := hcell 0 (by omega) 0 hsz
      have hlen0 := F.len (L[0]'(by omega))
      rw [List.getElem?_eq_getElem (by omega)] at h00
      have hx : x = ⟨x.block, x.off, none⟩ := by
        have := spot_of_cell h00
        rw [Nat.zero_mul, Nat.zero_add, add_zero] at this
        exact this
      have hlt := lt_of_cell h00
      rw [blk_add] at hlt
      rw [hx]
      refine rowsIn_of F hsz W _ _ len L hL (by omega) (fun _ => hlt) (fun i hi j hj => ?_)
      have := hcell i hi j hj
      rw [hx, Addr.add_lit] at this
      exact this

end Go.Proofs.Ytfjbliefcafiaaa
/- Bytes that came in. -/
namespace Go.Proofs.Ytfjbliefcafiaaa
open Go.ChangeShapes Go.WideShapes Go.ChangeAt Go.RowKit Go.Deep
theorem open_bytesIn {H : Type} {enc : TypeId × Value → H} {W : World} {a : Option Addr} {len cap : Nat} {d : DataW H} {p : List MemPlace}
    (h : DataW.Trod enc Try.prog W 0 (fun _ => true) true 22 (.slice a len cap) d p) : len ≤ 9223372036854775807 ∧ ∃ l, len ≤ 1048576 → RowsIn byteF W a len l ∧ ∀ x ∈ l, okByte x := by
  refine open_rows_ok byteF okByte Try.underlying22 (by kernel_rfl) (by decide) (fun fuel cs x hx => ?_) h
  obtain ⟨n0, g0, _, hw⟩ := DataW.trod_int Try.underlying5 hx
  subst g0
  refine ⟨n0, rfl, ?_⟩
  simp [Lit.wf] at hw
  have e1 : IntKind.u8.min = 0 := by decide
  have e2 : IntKind.u8.max = 255 := by decide
  unfold okByte
  omega
end Go.Proofs.Ytfjbliefcafiaaa
/- FnBalances: for every input the law returns true; its argument reads behind the call as before. No condition. -/
namespace Go.Proofs.Ytfjbliefcafiaaa
open Go.ChangeShapes Go.WideShapes Go.ChangeAt Go.RowKit
namespace fnBalances
set_option maxRecDepth 100000 in
theorem lifted (os : Os) (started : os.Started) (H : Type) (enc : TypeId × Value → H) :
    ReturnsInHanded {} Try.checked os 4 .any (Rows.fnBalancesSpec.pre6 enc Try.prog Try.f4 Rows.fnBalancesRow.domain false) (Rows.fnBalancesSpec.post enc Try.prog Try.f4 false true false false) := by
  refine returnsInHanded_of_change (C := Try.checked) own started (by kernel_rfl) Try.func4
    (ChangeSpec.witness6 (enc := enc) (C := Try.checked) false ⟨#[], #[.slice none 0 0], []⟩ 8 (by kernel_rfl) (by kernel_rfl) (by kernel_rfl) (by kernel_rfl)) ?_
  intro W base args ds gs before hval0 hW hcnd _
  have hval : ∀ (j : Nat) t v, Try.f4.params[j]? = some t → args[j]? = some v → Value.okWide Try.prog W .any base t v := hval0
  have hW' := hW
  obtain ⟨p, q, hA0, hV, rfl, hfz, hnd⟩ := hW
  have hA : DataW.TrodAll enc Try.prog W 0 (fun _ => true) true Try.f4.params.toList args.toList ds p := hA0
  rw [Try.params4] at hA hval
  obtain ⟨v0, vs0, d0, ds0, p0, q0, hargs, rfl, rfl, h0, r0⟩ := trodAll_cons hA
  obtain ⟨rfl, rfl, rfl⟩ := trodAll_nil r0
  obtain rfl : args = #[v0] := by cases args; simp_all
  obtain ⟨rfl, rfl⟩ := trodVars_none hV
  have k0 := h0
  have lt0 : ∀ x ∈ p0, x.block < W.heap.size := by obtain ⟨m, hm⟩ := k0; exact DataW.trod_lt m _ _ _ hm
  obtain ⟨a0, len0, cap0, rfl⟩ := okWide_slice Try.underlying22 (hval 0 22 v0 rfl rfl)
  obtain ⟨m0, z0, w0⟩ := open_bytesIn h0
  clear hA0 hval0
  refine (lawBalances a0 len0 cap0 z0 w0 m0).mono fun e W' ⟨he, bel⟩ => ?_
  subst he
  exact ⟨_, rfl, _, _, _, [], _, [], hW', trodAll_mk1 (shut_bool Try.underlying4 _), (trodAll_cons_mk (Below.trod laidOut (by kernel_rfl) (of_decide_eq_true (by kernel_rfl)) k0 bel lt0) trodAll_mk0), rfl, bel.frame _, fun h => by cases h⟩
theorem over : Rows.fnBalancesRow.holds Try.pinned (OpenSpec.ofChange Rows.fnBalancesSpec) :=
  OpenClaim.holds_of_wide 4 Try.f4 rfl rfl rfl rfl rfl rfl rfl ⟨rfl, rfl, rfl, rfl, rfl⟩ rfl rfl rfl rfl rfl (by kernel_rfl) Try.func4 (by kernel_rfl)
    (of_decide_eq_true (by kernel_rfl)) (by unfold Func.isWrapper; first | (rw [if_pos (by decide +kernel)]; kernel_rfl) | (rw [if_neg (by decide +kernel)]; exact ⟨rfl, rfl⟩))
    (fun os started H enc _ => lifted os started H enc)
theorem proved : Rows.FnBalancesSaid := over
#print axioms proved
end fnBalances
end Go.Proofs.Ytfjbliefcafiaaa
