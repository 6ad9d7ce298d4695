/- Part 16 of the texts of this claim: The walk of l18Taken; The walk of through: what of a part lies in an item, over the lines in force. -/
import Derived.Test.YtlkolehdikfddaaTr13
import Derived.Test.YtlkolehdikfddaaTr15
import Derived.BigRegion
import Derived.Test.YtlkolehdikfddaaTr6
/- The walk of l18Taken. -/
namespace Go.Proofs.Ytlkolehdikfddaa
open Go.RowKit
/-- The ending of l18Taken: the days' row, and whether it can be told. -/
def TakenEnd (p : Pt) (ds : List Dm) (l : List Pl) (item : ByteArray) (w : World) (e : Ending) (w' : World) : Prop := ∃ g M, e = .returned (.tuple #[.slice (some ⟨g, 0, none⟩) 1000 1000, .bool (takenOn p ds l item).2]) ∧ NumRow w' w.heap.size g 1000 1000 M ∧ Days M 60000000000000000 ∧ ((takenOn p ds l item).2 = true → M = (takenOn p ds l item).1) ∧ Below w.heap.size w w'
theorem takenEnd_mk {p : Pt} {ds : List Dm} {l : List Pl} {item : ByteArray} {w w' : World} {b : Bool} {g : Nat} {M : List Int} (hb : (takenOn p ds l item).2 = b) (h1 : NumRow w' w.heap.size g 1000 1000 M) (h2 : Days M 60000000000000000) (h3 : b = true → M = (takenOn p ds l item).1) (h4 : Below w.heap.size w w') : TakenEnd p ds l item w (.returned (.tuple #[.slice (some ⟨g, 0, none⟩) 1000 1000, .bool b])) w' := by
  subst hb
  exact ⟨g, M, rfl, h1, h2, h3, h4⟩
theorem capv_le {u : Int} (h : u ≤ 1000000000) : capv u = u := by unfold capv; rw [if_pos h]
theorem capv_gt {u : Int} (h : ¬ u ≤ 1000000000) : capv u = -1 := by unfold capv; rw [if_neg h]
set_option maxRecDepth 100000 in
set_option maxHeartbeats 8000000 in
theorem specTaken_any (r : PtR) (p : Pt) (A B : Option Addr) (n c m d : Nat) (ds : List Dm) (l : List Pl) (item : ByteArray) (w : World) (hp : PlantIn w r p) (hds : DemandsIn w A n ds) (hl : PlannedsIn w B m l) (hpl : arePlanned p l = true) (had : areDemands ds = true) :
    Calls Try.prog 22 #[.agg #[.slice r.i.a r.i.n r.i.c, .slice r.l.a r.l.n r.l.c, .slice r.w.a r.w.n r.w.c, .slice r.e.a r.e.n r.e.c, .slice r.p.a r.p.n r.p.c, .slice r.s.a r.s.n r.s.c, .slice r.q.a r.q.n r.q.c], .slice A n c, .slice B m d, .string item] w (TakenEnd p ds l item w) := by
  have HEV := Lib.hid (fun k => takenD_days (item := item) hpl had k)
  have HEP := Lib.hid (fun k => takenP_days (item := item) hpl had k)
  have HDB := Lib.hid (fun k (hk : k < ds.length) => dmN_bd (item := item) hpl k hk)
  have HDM := Lib.hid (fun k (hk : k < ds.length) => areDemands_mem had hk)
  have HPP := Lib.hid (arePlanned_parts hpl).2.2
  have hip := (arePlanned_parts hpl).1
  have HUB := Lib.hid (fun code day => unitAt_bd hip item code day)
  have HIP := Lib.hid hip
  have HD1 := Lib.hid (takenD_step p ds item)
  have HD2 := Lib.hid (takenD_few p ds item)
  have HD3 := Lib.hid (takenD_bad p ds l item)
  have HP1 := Lib.hid (takenP_step p ds l item)
  have HP2 := Lib.hid (takenP_few p ds l item)
  have HP3 := Lib.hid (takenP_bad p ds l item)
  have HA1 := Lib.hid (takenD_all p ds l item)
  have HA2 := Lib.hid (takenD_fewall p ds l item)
  have HA3 := Lib.hid (takenP_all p ds l item)
  have HA4 := Lib.hid (takenP_fewall p ds l item)
  have h16 := areDemands_len had
  have h500 := (arePlanned_parts hpl).2.1
  clear hpl had hip
  have hnd := hds.1
  have hnl := hl.1
  subst hnd hnl
  obtain ⟨⟨a0, n0, c0⟩, ⟨a1, n1, c1⟩, ⟨a2, n2, c2⟩, ⟨a3, n3, c3⟩, ⟨a4, n4, c4⟩, ⟨a5, n5, c5⟩, ⟨a6, n6, c6⟩⟩ := r
  have HP := Lib.hid hp
  have HQ0 := Lib.hid hp.it
  dsimp only at HQ0 ⊢
  clear hp
  have hn0 : n0 = p.it.length := HQ0.out.1
  subst hn0
  have hb := below_alloc w (.cells #[.slice a0 p.it.length c0, .slice a1 n1 c1, .slice a2 n2 c2, .slice a3 n3 c3, .slice a4 n4 c4, .slice a5 n5 c5, .slice a6 n6 c6] 34)
  have B0 : BoxOf (w.alloc (.cells #[.slice a0 p.it.length c0, .slice a1 n1 c1, .slice a2 n2 c2, .slice a3 n3 c3, .slice a4 n4 c4, .slice a5 n5 c5, .slice a6 n6 c6] 34)) w.heap.size [.slice a0 p.it.length c0, .slice a1 n1 c1, .slice a2 n2 c2, .slice a3 n3 c3, .slice a4 n4 c4, .slice a5 n5 c5, .slice a6 n6 c6] := boxOf_alloc w #[.slice a0 p.it.length c0, .slice a1 n1 c1, .slice a2 n2 c2, .slice a3 n3 c3, .slice a4 n4 c4, .slice a5 n5 c5, .slice a6 n6 c6] 34
  have hz : (w.alloc (.cells #[.slice a0 p.it.length c0, .slice a1 n1 c1, .slice a2 n2 c2, .slice a3 n3 c3, .slice a4 n4 c4, .slice a5 n5 c5, .slice a6 n6 c6] 34)).heap.size = w.heap.size + 1 := by simp
  go_enter Try.func22, Try.ntmps22
  go_wp2_with (at_make; refine wpList_make_nums rfl _ _ rfl w.heap.size 1000 rfl rfl rfl rfl (by omega) (by simp) ?_; intro w5 hA hA2 hA3)
  have hb1 := below_on hb hA2
  have B1 := B0.keep hA2
  have hA1 : NumRow w5 w.heap.size (w.heap.size + 1) 1000 1000 (tkTo ((evsD p item ds).take 0)) := by rw [hz] at hA; exact hA
  clear hA hA2 hA3 hb B0
  try rw [hz]
  clear hz
  generalize hgi : w.heap.size + 1 = gi at *
  go_loopw [11] (fun i wr => ∃ k : Nat, k ≤ ds.length ∧ i = .int .i64 k ∧ Hid (few ((evsD p item ds).take k) = true) ∧ NumRow wr w.heap.size gi 1000 1000 (tkTo ((evsD p item ds).take k)) ∧ BoxOf wr w.heap.size [.slice a0 p.it.length c0, .slice a1 n1 c1, .slice a2 n2 c2, .slice a3 n3 c3, .slice a4 n4 c4, .slice a5 n5 c5, .slice a6 n6 c6] ∧ Below w.heap.size w wr) (fun i _ => ds.length - (intOf i).toNat)
  case atStart => exact ⟨0, by omega, rfl, rfl, hA1, B1, hb1⟩
  case round =>
    clear hA1 B1 hb1
    obtain ⟨k, hk, rfl, HF, hA, B0, hb⟩ := hrel
    obtain ⟨b0, b1, b2, b3, b4, b5, b6, bl⟩ := B0.seven
    by_cases hlt : k < ds.length
    case neg =>
      obtain rfl : k = ds.length := by omega
      rw [HA1.out] at hA
      have HF0 : Hid (few (evsD p item ds ++ (evsP p item l).take 0) = true) := HA2.out.symm.trans HF.out
      clear HF b0 b1 b2 b3 b4 b5 b6 bl
      go_wp2_with fail
      go_loopw [14] (fun i wr => ∃ k : Nat, k ≤ l.length ∧ i = .int .i64 k ∧ Hid (few (evsD p item ds ++ (evsP p item l).take k) = true) ∧ NumRow wr w.heap.size gi 1000 1000 (tkTo (evsD p item ds ++ (evsP p item l).take k)) ∧ BoxOf wr w.heap.size [.slice a0 p.it.length c0, .slice a1 n1 c1, .slice a2 n2 c2, .slice a3 n3 c3, .slice a4 n4 c4, .slice a5 n5 c5, .slice a6 n6 c6] ∧ Below w.heap.size w wr) (fun i _ => l.length - (intOf i).toNat)
      case atStart => exact ⟨0, by omega, rfl, HF0, hA, B0, hb⟩
      case round =>
        clear hA B0 hb HF0
        obtain ⟨k, hk, rfl, HF, hA, B0, hb⟩ := hrel
        obtain ⟨b0, b1, b2, b3, b4, b5, b6, bl⟩ := B0.seven
        by_cases hlt : k < l.length
        case neg =>
          obtain rfl : k = l.length := by omega
          have hdy := HEP.out l.length
          rw [HA3.out] at hA hdy
          have HFF := HA4.out.symm.trans HF.out
          go_wp2_with fail
          go_ret2
          exact takenEnd_mk HFF hA hdy (fun _ => rfl) hb
        have HST := Lib.hid (HP1.out k hlt)
        have HFT := Lib.hid (HP2.out k hlt)
        have hdy := HEP.out k
        have hdy1 := HEP.out (k + 1)
        have HPB := Lib.hid (HP3.out k hlt)
        obtain ⟨z1, z2, ⟨z3, z4⟩, ⟨z5, z6⟩, z7, z8⟩ := HPP.out k hlt
        obtain ⟨b, o, rfl, hbl, hc0, hc1, hc2, hc3, hc4⟩ := planned_at (hl.keep hb) hlt
        have hub := HUB.out l[k].1 l[k].2.2.1
        generalize hMM : tkTo (evsD p item ds ++ (evsP p item l).take k) = M at *
        clear hMM
        go_wp2_with fail
        refine wp_region_held_drew (S := (fun w' => w'.cell? ⟨w.heap.size, 0, none⟩ = some (.slice a0 p.it.length c0) ∧ w'.cell? ⟨w.heap.size, 1, none⟩ = some (.slice a1 n1 c1) ∧ w'.cell? ⟨w.heap.size, 2, none⟩ = some (.slice a2 n2 c2) ∧ w'.cell? ⟨w.heap.size, 3, none⟩ = some (.slice a3 n3 c3) ∧ w'.cell? ⟨w.heap.size, 4, none⟩ = some (.slice a4 n4 c4) ∧ w'.cell? ⟨w.heap.size, 5, none⟩ = some (.slice a5 n5 c5) ∧ w'.cell? ⟨w.heap.size, 6, none⟩ = some (.slice a6 n6 c6) ∧ w'.cell? ⟨b, o + k * 5, none⟩ = some (.string l[k].1) ∧ w'.cell? ⟨b, o + k * 5 + 2, none⟩ = some (.int .i64 l[k].2.2.1) ∧ w.heap.size < w'.heap.size ∧ b < w'.heap.size ∧ Below wr.heap.size wr w')) (by kernel_rfl) ⟨b0, b1, b2, b3, b4, b5, b6, hc0, hc2, bl, hbl, (Below.refl _ _).drew⟩ (fun hHeld => ?_)
        refine held1 0 (some 94) hHeld ?_
        refine held1 1 (some 95) hHeld ?_
        refine held1 2 (some 96) hHeld ?_
        refine held1 3 (some 97) hHeld ?_
        refine held1 4 (some 98) hHeld ?_
        refine held1 5 (some 99) hHeld ?_
        refine held1 6 (some 100) hHeld ?_
        refine held1 7 (some 101) hHeld ?_
        refine held1 8 (some 102) hHeld ?_
        refine held1 9 (some 103) hHeld ?_
        refine held1 10 (some 104) hHeld ?_
        refine held1 11 (some 105) hHeld ?_
        refine held_do 12 fun K hK => ?_
        go_simp
        go_at_call 45; refine (l18Unit_any ⟨⟨a0, p.it.length, c0⟩, ⟨a1, n1, c1⟩, ⟨a2, n2, c2⟩, ⟨a3, n3, c3⟩, ⟨a4, n4, c4⟩, ⟨a5, n5, c5⟩, ⟨a6, n6, c6⟩⟩ p _ _ _ _ (HP.out.keep (below_on hb (by obtain ⟨y_c0, y_c1, y_c2, y_c3, y_c4, y_c5, y_c6, y_p0, y_p2, y_n, y_b, y_R⟩ := hHeld; exact y_R))) HIP.out z1).mono ?_; rintro e w6 ⟨rfl, hb3⟩; go_simp
        refine hK.out _ _ ?_ (fun hHeld => ?_)
        · obtain ⟨y_c0, y_c1, y_c2, y_c3, y_c4, y_c5, y_c6, y_p0, y_p2, y_n, y_b, y_R⟩ := hHeld; exact ⟨(hb3.cell y_n).trans y_c0, (hb3.cell y_n).trans y_c1, (hb3.cell y_n).trans y_c2, (hb3.cell y_n).trans y_c3, (hb3.cell y_n).trans y_c4, (hb3.cell y_n).trans y_c5, (hb3.cell y_n).trans y_c6, (hb3.cell y_b).trans y_p0, (hb3.cell y_b).trans y_p2, Nat.lt_of_lt_of_le y_n hb3.size, Nat.lt_of_lt_of_le y_b hb3.size, below_on y_R hb3⟩
        clear hK K
        refine held1 13 (some 15) hHeld ?_
        refine wpAnyH_done (by kernel_rfl) ?_ _
        obtain ⟨y_c0, y_c1, y_c2, y_c3, y_c4, y_c5, y_c6, y_p0, y_p2, y_n, y_b, y_R⟩ := hHeld
        replace hA := hA.keep y_R
        replace B0 := B0.keep y_R
        replace hb := below_on hb y_R
        clear y_c0 y_c1 y_c2 y_c3 y_c4 y_c5 y_c6 y_p0 y_p2 y_n y_b y_R b0 b1 b2 b3 b4 b5 b6 bl hc0 hc1 hc2 hc3 hc4 hbl
        generalize hU : unitAt p item l[k].1 l[k].2.2.1 = u at *
        have HU := Lib.hid hU
        clear hU
        by_cases hu : u ≤ 1000000000
        case neg =>
          rw [capv_gt hu]
          have HBB := HPB.out (by omega)
          go_wp2_with fail
          go_ret2
          exact takenEnd_mk HBB hA hdy (fun h => by cases h) hb
        rw [capv_le hu]
        have HFT1 : Hid (few (evsD p item ds ++ (evsP p item l).take (k + 1)) = true) := by show _ = _; rw [HFT.out, HF.out, decide_eq_true hu]; rfl
        obtain ⟨dn, hdn⟩ : ∃ dn : Nat, l[k].2.2.1 = (dn : Int) := ⟨(l[k].2.2.1).toNat, by omega⟩
        have hd1 : dn < 1000 := by omega
        have hd2 : (dn : Int) < (1000 : Int) := by omega
        have hmc := hdy.cell dn
        generalize hma : M.getD dn 0 = mv at *
        have HMA := Lib.hid hma
        clear hma
        have hp0 : 0 ≤ u * l[k].2.1 := Int.mul_nonneg (by omega) (by omega)
        have hp1 : u * l[k].2.1 ≤ 1000000001 * 100000 := Int.mul_le_mul (by omega) (by omega) (by omega) (by omega)
        have hw1 : IntKind.i64.wrap (u * l[k].2.1) = u * l[k].2.1 := by apply IntWalk.i64_in <;> omega
        have hw2 : IntKind.i64.wrap (mv + u * l[k].2.1) = mv + u * l[k].2.1 := by apply IntWalk.i64_in <;> omega
        have HYY : Hid (tkTo (evsD p item ds ++ (evsP p item l).take (k + 1)) = M.set dn (mv + u * l[k].2.1)) := by
          show _ = _
          rw [HST.out]; unfold tkStep plV; simp only []; rw [HU.out]; rw [hdn, Int.toNat_natCast, HMA.out]
        obtain ⟨_, _, e9, hbl, hc0, hc1, hc2, hc3, hc4⟩ := planned_at (hl.keep hb) hlt
        obtain ⟨rfl, rfl⟩ : b = _ ∧ o = _ := by simpa using e9
        clear e9
        rw [hdn] at hc2
        have cA := hA.cell (j := dn) (by rw [hA.len]; exact hd1)
        have cA2 : w6.cell? ⟨gi, dn, none⟩ = some (.int .i64 mv) := by rw [cA, ← HMA.out, List.getD_eq_getElem?_getD, List.getElem?_eq_getElem (by rw [hA.len]; exact hd1)]; rfl
        have fA := hA.frozen dn
        clear cA
        go_wp2_with fail
        go_still_tail 23, (by kernel_rfl)
        change wpList _ _ _ _ _ w6.drew
        replace hA := hA.keep (Below.refl w6.heap.size w6).drew
        replace B0 := B0.keep (Below.refl w6.heap.size w6).drew
        replace cA2 : w6.drew.cell? ⟨gi, dn, none⟩ = some (.int .i64 mv) := cA2
        replace fA : w6.drew.frozen? ⟨gi, dn, none⟩ = false := fA
        replace hb := hb.drew
        clear hc0 hc1 hc2 hc3 hc4 hbl
        generalize w6.drew = W8 at *
        go_wp2_with fail
        have hNW : w.heap.size ≠ gi := by omega
        go_roundw
        case rel => exact ⟨k + 1, by omega, by go_num, HFT1.out, by rw [HYY.out]; exact hA.set dn _, B0.off (by show gi ≠ w.heap.size; omega) _, hb.setCell (p := ⟨gi, dn, none⟩) (by show w.heap.size ≤ gi; omega) _⟩
        case measure => simp [intOf]; omega
    have HST := Lib.hid (HD1.out k hlt)
    have HFT := Lib.hid (HD2.out k hlt)
    have hdy := HEV.out k
    have HPB := Lib.hid (HD3.out k hlt)
    obtain ⟨z3, z4, z5, z6⟩ := HDM.out k hlt
    obtain ⟨b, o, rfl, hbl, hc0, hc1, hc2, hc3, hc4⟩ := demand_at (hds.keep hb) hlt
    generalize hMM : tkTo ((evsD p item ds).take k) = M at *
    clear hMM
    have HIT := Lib.hid (HQ0.out.keep hb)
    go_wp2_with fail
    go_quiet ((go_at_call 10; refine (specFindItem_any _ _ _ p.it _ _ (HIT.out.keep (below_drewN (Below.refl _ _) _))).mono ?_; rintro e w' ⟨rfl, rfl⟩; exact ⟨rfl, _, rfl⟩))
    replace hA := hA.keep (below_drewN (Below.refl _ _) nq)
    replace B0 := B0.keep (below_drewN (Below.refl _ _) nq)
    replace hb := below_drewN hb nq
    clear b0 b1 b2 b3 b4 b5 b6 bl hc0 hc1 hc2 hc3 hc4 hbl HIT
    generalize hWq : wr.drewN nq = wq at *
    clear hWq
    obtain ⟨_, _, e9, hbl, hc0, hc1, hc2, hc3, hc4⟩ := demand_at (hds.keep hb) hlt
    obtain ⟨rfl, rfl⟩ : b = _ ∧ o = _ := by simpa using e9
    clear e9
    obtain ⟨b0, b1, b2, b3, b4, b5, b6, bl⟩ := B0.seven
    obtain ⟨f1, f2⟩ := findIt_bd p.it ds[k].2.1
    cases heq : (ds[k].2.1.toList == item.toList)
    case true =>
      have HN : Hid (dmN p item ds[k] = 1) := by show _ = _; unfold dmN; rw [if_pos heq]
      have HFT1 : Hid (few ((evsD p item ds).take (k + 1)) = true) := by show _ = _; rw [HFT.out, HF.out, HN.out]; rfl
      clear hc0 hc2 hc3 hc4 hbl
      go_wp2_with fail
      clear hc1
      obtain ⟨dn, hdn⟩ : ∃ dn : Nat, ds[k].2.2.2.1 = (dn : Int) := ⟨(ds[k].2.2.2.1).toNat, by omega⟩
      have hd1 : dn < 1000 := by omega
      have hd2 : (dn : Int) < (1000 : Int) := by omega
      have hmc := hdy.cell dn
      generalize hma : M.getD dn 0 = mv at *
      have HMA := Lib.hid hma
      clear hma
      have HYY : Hid (tkTo ((evsD p item ds).take (k + 1)) = M.set dn (mv + ds[k].2.2.1)) := by
        show _ = _
        rw [HST.out]; unfold tkStep dmV; simp only []; rw [HN.out]; rw [hdn, Int.toNat_natCast, HMA.out]; simp
      obtain ⟨_, _, e9, hbl, hc0, hc1, hc2, hc3, hc4⟩ := demand_at (hds.keep hb) hlt
      obtain ⟨rfl, rfl⟩ : b = _ ∧ o = _ := by simpa using e9
      clear e9
      rw [hdn] at hc3
      have cA := hA.cell (j := dn) (by rw [hA.len]; exact hd1)
      have cA2 : wq.cell? ⟨gi, dn, none⟩ = some (.int .i64 mv) := by rw [cA, ← HMA.out, List.getD_eq_getElem?_getD, List.getElem?_eq_getElem (by rw [hA.len]; exact hd1)]; rfl
      have fA := hA.frozen dn
      clear cA
      go_wp2_with fail
      go_still_tail 23, (by kernel_rfl)
      change wpList _ _ _ _ _ wq.drew
      replace hA := hA.keep (Below.refl wq.heap.size wq).drew
      replace B0 := B0.keep (Below.refl wq.heap.size wq).drew
      replace cA2 : wq.drew.cell? ⟨gi, dn, none⟩ = some (.int .i64 mv) := cA2
      replace fA : wq.drew.frozen? ⟨gi, dn, none⟩ = false := fA
      replace hb := hb.drew
      clear hc0 hc1 hc2 hc3 hc4 hbl
      generalize wq.drew = W8 at *
      go_wp2_with fail
      have hNW : w.heap.size ≠ gi := by omega
      go_roundw
      case rel => exact ⟨k + 1, by omega, by go_num, HFT1.out, by rw [HYY.out]; exact hA.set dn _, B0.off (by show gi ≠ w.heap.size; omega) _, hb.setCell (p := ⟨gi, dn, none⟩) (by show w.heap.size ≤ gi; omega) _⟩
      case measure => simp [intOf]; omega
    by_cases hf : 0 ≤ findIt p.it ds[k].2.1
    case neg =>
      have HN : Hid (dmN p item ds[k] = 0) := by show _ = _; unfold dmN; rw [if_neg (by rw [heq]; decide), decide_eq_false hf]; rfl
      have HFT1 : Hid (few ((evsD p item ds).take (k + 1)) = true) := by show _ = _; rw [HFT.out, HF.out, HN.out]; rfl
      clear hc0 hc2 hc3 hc4 hbl
      go_wp2_with fail
      clear hc1
      obtain ⟨dn, hdn⟩ : ∃ dn : Nat, ds[k].2.2.2.1 = (dn : Int) := ⟨(ds[k].2.2.2.1).toNat, by omega⟩
      have hd1 : dn < 1000 := by omega
      have hd2 : (dn : Int) < (1000 : Int) := by omega
      have hmc := hdy.cell dn
      generalize hma : M.getD dn 0 = mv at *
      have HMA := Lib.hid hma
      clear hma
      have HYY : Hid (tkTo ((evsD p item ds).take (k + 1)) = M.set dn (mv)) := by
        show _ = _
        rw [HST.out]; unfold tkStep dmV; simp only []; rw [HN.out]; rw [hdn, Int.toNat_natCast, HMA.out]; simp
      obtain ⟨_, _, e9, hbl, hc0, hc1, hc2, hc3, hc4⟩ := demand_at (hds.keep hb) hlt
      obtain ⟨rfl, rfl⟩ : b = _ ∧ o = _ := by simpa using e9
      clear e9
      rw [hdn] at hc3
      have cA := hA.cell (j := dn) (by rw [hA.len]; exact hd1)
      have cA2 : wq.cell? ⟨gi, dn, none⟩ = some (.int .i64 mv) := by rw [cA, ← HMA.out, List.getD_eq_getElem?_getD, List.getElem?_eq_getElem (by rw [hA.len]; exact hd1)]; rfl
      have fA := hA.frozen dn
      clear cA
      go_wp2_with fail
      go_still_tail 23, (by kernel_rfl)
      change wpList _ _ _ _ _ wq.drew
      replace hA := hA.keep (Below.refl wq.heap.size wq).drew
      replace B0 := B0.keep (Below.refl wq.heap.size wq).drew
      replace cA2 : wq.drew.cell? ⟨gi, dn, none⟩ = some (.int .i64 mv) := cA2
      replace fA : wq.drew.frozen? ⟨gi, dn, none⟩ = false := fA
      replace hb := hb.drew
      clear hc0 hc1 hc2 hc3 hc4 hbl
      generalize wq.drew = W8 at *
      go_wp2_with fail
      have hNW : w.heap.size ≠ gi := by omega
      go_roundw
      case rel => exact ⟨k + 1, by omega, by go_num, HFT1.out, by rw [HYY.out]; exact hA.set dn _, B0.off (by show gi ≠ w.heap.size; omega) _, hb.setCell (p := ⟨gi, dn, none⟩) (by show w.heap.size ≤ gi; omega) _⟩
      case measure => simp [intOf]; omega
    obtain ⟨qn, hqn⟩ : ∃ qn : Nat, findIt p.it ds[k].2.1 = (qn : Int) := ⟨(findIt p.it ds[k].2.1).toNat, by omega⟩
    have q1 : qn < p.it.length := by omega
    have q2 : (qn : Int) < (p.it.length : Int) := by omega
    have q3 : (0 : Int) ≤ (qn : Int) := by omega
    obtain ⟨bi, oi, rfl, hbi, t0, t1, t2, _⟩ := item_at (HQ0.out.keep hb) q1
    have HPH : Hid (phan p.it ds[k].2.1 = (p.it[qn].2.2.1 == 2)) := by show _ = _; unfold phan; rw [hqn, Int.toNat_natCast, List.getD_eq_getElem?_getD, List.getElem?_eq_getElem q1]; rfl
    have HFD := Lib.hid hf
    rw [hqn]
    clear hf f1 f2
    cases hk2 : (p.it[qn].2.2.1 == 2)
    case false =>
      have HN : Hid (dmN p item ds[k] = 0) := by show _ = _; unfold dmN; rw [if_neg (by rw [heq]; decide), HPH.out, hk2]; simp
      have HFT1 : Hid (few ((evsD p item ds).take (k + 1)) = true) := by show _ = _; rw [HFT.out, HF.out, HN.out]; rfl
      clear hc0 hc2 hc3 hc4 hbl
      go_wp2_with fail
      clear hc1
      obtain ⟨dn, hdn⟩ : ∃ dn : Nat, ds[k].2.2.2.1 = (dn : Int) := ⟨(ds[k].2.2.2.1).toNat, by omega⟩
      have hd1 : dn < 1000 := by omega
      have hd2 : (dn : Int) < (1000 : Int) := by omega
      have hmc := hdy.cell dn
      generalize hma : M.getD dn 0 = mv at *
      have HMA := Lib.hid hma
      clear hma
      have HYY : Hid (tkTo ((evsD p item ds).take (k + 1)) = M.set dn (mv)) := by
        show _ = _
        rw [HST.out]; unfold tkStep dmV; simp only []; rw [HN.out]; rw [hdn, Int.toNat_natCast, HMA.out]; simp
      obtain ⟨_, _, e9, hbl, hc0, hc1, hc2, hc3, hc4⟩ := demand_at (hds.keep hb) hlt
      obtain ⟨rfl, rfl⟩ : b = _ ∧ o = _ := by simpa using e9
      clear e9
      rw [hdn] at hc3
      have cA := hA.cell (j := dn) (by rw [hA.len]; exact hd1)
      have cA2 : wq.cell? ⟨gi, dn, none⟩ = some (.int .i64 mv) := by rw [cA, ← HMA.out, List.getD_eq_getElem?_getD, List.getElem?_eq_getElem (by rw [hA.len]; exact hd1)]; rfl
      have fA := hA.frozen dn
      clear cA
      go_wp2_with fail
      go_still_tail 23, (by kernel_rfl)
      change wpList _ _ _ _ _ wq.drew
      replace hA := hA.keep (Below.refl wq.heap.size wq).drew
      replace B0 := B0.keep (Below.refl wq.heap.size wq).drew
      replace cA2 : wq.drew.cell? ⟨gi, dn, none⟩ = some (.int .i64 mv) := cA2
      replace fA : wq.drew.frozen? ⟨gi, dn, none⟩ = false := fA
      replace hb := hb.drew
      clear hc0 hc1 hc2 hc3 hc4 hbl
      generalize wq.drew = W8 at *
      go_wp2_with fail
      have hNW : w.heap.size ≠ gi := by omega
      go_roundw
      case rel => exact ⟨k + 1, by omega, by go_num, HFT1.out, by rw [HYY.out]; exact hA.set dn _, B0.off (by show gi ≠ w.heap.size; omega) _, hb.setCell (p := ⟨gi, dn, none⟩) (by show w.heap.size ≤ gi; omega) _⟩
      case measure => simp [intOf]; omega
    have HN : Hid (dmN p item ds[k] = unitAt p item ds[k].2.1 ds[k].2.2.2.1) := by show _ = _; unfold dmN; rw [if_neg (by rw [heq]; decide), HPH.out, hk2, decide_eq_true HFD.out]; rfl
    have hub := HUB.out ds[k].2.1 ds[k].2.2.2.1
    go_wp2_with fail
    refine wp_region_held_drew (S := (fun w' => w'.cell? ⟨w.heap.size, 0, none⟩ = some (.slice (some ⟨bi, oi, none⟩) p.it.length c0) ∧ w'.cell? ⟨w.heap.size, 1, none⟩ = some (.slice a1 n1 c1) ∧ w'.cell? ⟨w.heap.size, 2, none⟩ = some (.slice a2 n2 c2) ∧ w'.cell? ⟨w.heap.size, 3, none⟩ = some (.slice a3 n3 c3) ∧ w'.cell? ⟨w.heap.size, 4, none⟩ = some (.slice a4 n4 c4) ∧ w'.cell? ⟨w.heap.size, 5, none⟩ = some (.slice a5 n5 c5) ∧ w'.cell? ⟨w.heap.size, 6, none⟩ = some (.slice a6 n6 c6) ∧ w'.cell? ⟨b, o + k * 5 + 1, none⟩ = some (.string ds[k].2.1) ∧ w'.cell? ⟨b, o + k * 5 + 3, none⟩ = some (.int .i64 ds[k].2.2.2.1) ∧ w.heap.size < w'.heap.size ∧ b < w'.heap.size ∧ Below wq.heap.size wq w')) (by kernel_rfl) ⟨b0, b1, b2, b3, b4, b5, b6, hc1, hc3, bl, hbl, (Below.refl _ _).drew⟩ (fun hHeld => ?_)
    refine held1 0 (some 49) hHeld ?_
    refine held1 1 (some 50) hHeld ?_
    refine held1 2 (some 51) hHeld ?_
    refine held1 3 (some 52) hHeld ?_
    refine held1 4 (some 53) hHeld ?_
    refine held1 5 (some 54) hHeld ?_
    refine held1 6 (some 55) hHeld ?_
    refine held1 7 (some 56) hHeld ?_
    refine held1 8 (some 57) hHeld ?_
    refine held1 9 (some 58) hHeld ?_
    refine held1 10 (some 59) hHeld ?_
    refine held1 11 (some 60) hHeld ?_
    refine held_do 12 fun K hK => ?_
    go_simp
    go_at_call 45; refine (l18Unit_any ⟨⟨(some ⟨bi, oi, none⟩), p.it.length, c0⟩, ⟨a1, n1, c1⟩, ⟨a2, n2, c2⟩, ⟨a3, n3, c3⟩, ⟨a4, n4, c4⟩, ⟨a5, n5, c5⟩, ⟨a6, n6, c6⟩⟩ p _ _ _ _ (HP.out.keep (below_on hb (by obtain ⟨y_c0, y_c1, y_c2, y_c3, y_c4, y_c5, y_c6, y_p1, y_p3, y_n, y_b, y_R⟩ := hHeld; exact y_R))) HIP.out HFD.out).mono ?_; rintro e w6 ⟨rfl, hb3⟩; go_simp
    refine hK.out _ _ ?_ (fun hHeld => ?_)
    · obtain ⟨y_c0, y_c1, y_c2, y_c3, y_c4, y_c5, y_c6, y_p1, y_p3, y_n, y_b, y_R⟩ := hHeld; exact ⟨(hb3.cell y_n).trans y_c0, (hb3.cell y_n).trans y_c1, (hb3.cell y_n).trans y_c2, (hb3.cell y_n).trans y_c3, (hb3.cell y_n).trans y_c4, (hb3.cell y_n).trans y_c5, (hb3.cell y_n).trans y_c6, (hb3.cell y_b).trans y_p1, (hb3.cell y_b).trans y_p3, Nat.lt_of_lt_of_le y_n hb3.size, Nat.lt_of_lt_of_le y_b hb3.size, below_on y_R hb3⟩
    clear hK K
    refine held1 13 (some 13) hHeld ?_
    refine wpAnyH_done (by kernel_rfl) ?_ _
    obtain ⟨y_c0, y_c1, y_c2, y_c3, y_c4, y_c5, y_c6, y_p1, y_p3, y_n, y_b, y_R⟩ := hHeld
    replace hA := hA.keep y_R
    replace B0 := B0.keep y_R
    replace hb := below_on hb y_R
    clear y_c0 y_c1 y_c2 y_c3 y_c4 y_c5 y_c6 y_p1 y_p3 y_n y_b y_R b0 b1 b2 b3 b4 b5 b6 bl hc0 hc1 hc2 hc3 hc4 hbl
    clear t0 t1 t2 hbi hk2 heq
    generalize hU : unitAt p item ds[k].2.1 ds[k].2.2.2.1 = u at *
    have HU := Lib.hid hU
    clear hU
    by_cases hu : u ≤ 1000000000
    case neg =>
      rw [capv_gt hu]
      have HBB := HPB.out (by rw [HN.out]; omega)
      go_wp2_with fail
      go_ret2
      exact takenEnd_mk HBB hA hdy (fun h => by cases h) hb
    rw [capv_le hu]
    have HFT1 : Hid (few ((evsD p item ds).take (k + 1)) = true) := by show _ = _; rw [HFT.out, HF.out, HN.out, decide_eq_true hu]; rfl
    obtain ⟨dn, hdn⟩ : ∃ dn : Nat, ds[k].2.2.2.1 = (dn : Int) := ⟨(ds[k].2.2.2.1).toNat, by omega⟩
    have hd1 : dn < 1000 := by omega
    have hd2 : (dn : Int) < (1000 : Int) := by omega
    have hmc := hdy.cell dn
    generalize hma : M.getD dn 0 = mv at *
    have HMA := Lib.hid hma
    clear hma
    have hp0 : 0 ≤ u * ds[k].2.2.1 := Int.mul_nonneg (by omega) (by omega)
    have hp1 : u * ds[k].2.2.1 ≤ 1000000001 * 100000 := Int.mul_le_mul (by omega) (by omega) (by omega) (by omega)
    have hw1 : IntKind.i64.wrap (u * ds[k].2.2.1) = u * ds[k].2.2.1 := by apply IntWalk.i64_in <;> omega
    have hw2 : IntKind.i64.wrap (mv + u * ds[k].2.2.1) = mv + u * ds[k].2.2.1 := by apply IntWalk.i64_in <;> omega
    have HYY : Hid (tkTo ((evsD p item ds).take (k + 1)) = M.set dn (mv + u * ds[k].2.2.1)) := by
      show _ = _
      rw [HST.out]; unfold tkStep dmV; simp only []; rw [HN.out]; rw [hdn, Int.toNat_natCast, HMA.out]
    obtain ⟨_, _, e9, hbl, hc0, hc1, hc2, hc3, hc4⟩ := demand_at (hds.keep hb) hlt
    obtain ⟨rfl, rfl⟩ : b = _ ∧ o = _ := by simpa using e9
    clear e9
    rw [hdn] at hc3
    have cA := hA.cell (j := dn) (by rw [hA.len]; exact hd1)
    have cA2 : w6.cell? ⟨gi, dn, none⟩ = some (.int .i64 mv) := by rw [cA, ← HMA.out, List.getD_eq_getElem?_getD, List.getElem?_eq_getElem (by rw [hA.len]; exact hd1)]; rfl
    have fA := hA.frozen dn
    clear cA
    go_wp2_with fail
    go_still_tail 23, (by kernel_rfl)
    change wpList _ _ _ _ _ w6.drew
    replace hA := hA.keep (Below.refl w6.heap.size w6).drew
    replace B0 := B0.keep (Below.refl w6.heap.size w6).drew
    replace cA2 : w6.drew.cell? ⟨gi, dn, none⟩ = some (.int .i64 mv) := cA2
    replace fA : w6.drew.frozen? ⟨gi, dn, none⟩ = false := fA
    replace hb := hb.drew
    clear hc0 hc1 hc2 hc3 hc4 hbl
    generalize w6.drew = W8 at *
    go_wp2_with fail
    have hNW : w.heap.size ≠ gi := by omega
    go_roundw
    case rel => exact ⟨k + 1, by omega, by go_num, HFT1.out, by rw [HYY.out]; exact hA.set dn _, B0.off (by show gi ≠ w.heap.size; omega) _, hb.setCell (p := ⟨gi, dn, none⟩) (by show w.heap.size ≤ gi; omega) _⟩
    case measure => simp [intOf]; omega
end Go.Proofs.Ytlkolehdikfddaa
/- The walk of through: what of a part lies in an item, over the lines in force. -/
namespace Go.Proofs.Ytlkolehdikfddaa
open Go.RowKit
def FlatL (w : World) (A : Option Addr) (n : Nat) (l : List Bl) : Prop := ∃ R, RowsIn blF w A n R ∧ BillLineOfs (fun _ _ _ => True) R l
theorem FlatL.keep {w w' : World} {A : Option Addr} {n : Nat} {l : List Bl} (h : FlatL w A n l) (hb : Below w.heap.size w w') : FlatL w' A n l := by
  obtain ⟨R, h1, h2⟩ := h
  exact ⟨R, h1.keep hb, h2⟩
theorem FlatL.len {w : World} {A : Option Addr} {n : Nat} {l : List Bl} (h : FlatL w A n l) : l.length ≤ 16777216 := by obtain ⟨R, h1, h2⟩ := h; rw [← h2.1]; exact h1.len
theorem FlatL.num {w : World} {A : Option Addr} {n : Nat} {l : List Bl} (h : FlatL w A n l) : n = l.length := by obtain ⟨R, h1, h2⟩ := h; rw [← h2.1]; exact h1.1
theorem flat_at {w : World} {A : Option Addr} {n : Nat} {l : List Bl} (h : FlatL w A n l) {k : Nat} (hk : k < l.length) :
    ∃ b o B m c, A = some ⟨b, o, none⟩ ∧ b < w.heap.size ∧ w.cell? ⟨b, o + k * 6, none⟩ = some (.string (l[k].1)) ∧ w.cell? ⟨b, o + k * 6 + 1, none⟩ = some (.string (l[k].2.1)) ∧ w.cell? ⟨b, o + k * 6 + 2, none⟩ = some (.int .i64 (l[k].2.2.1)) ∧ w.cell? ⟨b, o + k * 6 + 3, none⟩ = some (.int .i64 (l[k].2.2.2.1)) ∧ w.cell? ⟨b, o + k * 6 + 4, none⟩ = some (.int .i64 (l[k].2.2.2.2.1)) ∧ w.cell? ⟨b, o + k * 6 + 5, none⟩ = some (.slice B m c) := by
  obtain ⟨R, h1, h2, h3⟩ := h
  obtain ⟨b, o, e, hlt, hc⟩ := h1.at_ (k := k) (by omega)
  have h4 := h3 k (by omega) hk
  simp only [BlOf] at h4
  exact ⟨b, o, _, _, _, e, hlt, by rw [← h4.1]; exact hc 0 _ rfl, by rw [← h4.2.1]; exact hc 1 _ rfl, by rw [← h4.2.2.1]; exact hc 2 _ rfl, by rw [← h4.2.2.2.1]; exact hc 3 _ rfl, by rw [← h4.2.2.2.2.1]; exact hc 4 _ rfl, hc 5 _ rfl⟩
/-- One line in force. -/
def thrS (it : List It) (part code : ByteArray) (f : ByteArray → Int) (s : Int) (x : Bl) : Int :=
  if x.1.toList == code.toList then (if x.2.1.toList == part.toList then min (s + x.2.2.1) 1000000001 else if phan it x.2.1 then min (s + x.2.2.1 * f x.2.1) 1000000001 else s) else s
theorem thr_force (it : List It) (ls : List Bl) (on : Bl → Bool) (part code : ByteArray) (f : ByteArray → Int) : ls.foldl (thrStep it on part code f) 0 = (ls.filter on).foldl (thrS it part code f) 0 := by
  rw [List.foldl_filter]
  refine foldl_ext' _ _ _ (fun s x _ => ?_) 0
  unfold thrStep thrS
  cases on x <;> simp
theorem thrS_bd (it : List It) (part code : ByteArray) (f : ByteArray → Int) (hf : ∀ c, 0 ≤ f c) (l : List Bl) (hl : ∀ x ∈ l, 1 ≤ x.2.2.1) (k : Nat) : 0 ≤ (l.take k).foldl (thrS it part code f) 0 ∧ (l.take k).foldl (thrS it part code f) 0 ≤ 1000000001 := by
  induction k with
  | zero => exact ⟨by simp, by simp⟩
  | succ k ih =>
    by_cases hk : k < l.length
    · rw [List.take_add_one, List.getElem?_eq_getElem hk, Option.toList_some, List.foldl_append]
      simp only [List.foldl_cons, List.foldl_nil]
      have h1 := hl _ (List.getElem_mem hk)
      have h2 := Int.mul_nonneg (show 0 ≤ l[k].2.2.1 by omega) (hf l[k].2.1)
      generalize (l.take k).foldl (thrS it part code f) 0 = s at *
      unfold thrS
      split
      · split
        · omega
        · split <;> omega
      · exact ih
    · rw [List.take_of_length_le (by omega)]
      rw [List.take_of_length_le (by omega)] at ih
      exact ih
theorem thrS_take (it : List It) (part code : ByteArray) (f : ByteArray → Int) (l : List Bl) (k : Nat) (h : k < l.length) : (l.take (k + 1)).foldl (thrS it part code f) 0 = thrS it part code f ((l.take k).foldl (thrS it part code f) 0) l[k] := by
  rw [List.take_add_one, List.getElem?_eq_getElem h, Option.toList_some, List.foldl_append]; rfl
set_option maxRecDepth 100000 in
set_option maxHeartbeats 4000000 in
theorem through_any (it : List It) (ls : List Bl) (lev : List Nat) (on : Bl → Bool) (part : ByteArray) (hL : Lev it ls lev) (A B : Option Addr) (n c m e9 : Nat) (d : Nat) : ∀ (code : ByteArray) (w : World), ItemsIn w A n it → FlatL w B m (ls.filter on) → 0 ≤ findIt it code → it.length - lev.getD (findIt it code).toNat 0 ≤ d →
    Calls Try.prog 41 #[.slice A n c, .slice B m e9, .string code, .string part] w fun e w' => e = .returned (.int .i64 (unitV it ls on part code)) ∧ Below w.heap.size w w' := by
  induction d with
  | zero =>
    intro code w hi hl h0 hd
    exfalso
    have := hL.lt _ (findIt_lt h0)
    omega
  | succ d ih =>
    intro code w hi hl h0 hd
    have hn := hi.len
    have hm := hl.len
    obtain rfl := hi.1
    obtain rfl := hl.num
    have HV : Hid (unitV it ls on part code = ((ls.filter on).take (ls.filter on).length).foldl (thrS it part code (unitV it ls on part)) 0) := by
      show _ = _
      rw [List.take_length, ← thr_force, ← unitV_eq hL on part code h0]
    have HBD := Lib.hid (thrS_bd it part code (unitV it ls on part) (fun c => (unitV_bd hL on part c).1) (ls.filter on) (fun x hx => (hL.qty x (List.mem_filter.1 hx).1).1))
    have HT := Lib.hid (thrS_take it part code (unitV it ls on part) (ls.filter on))
    have HU := Lib.hid (unitV_bd hL on part)
    have HLQ : Hid (∀ k (hk : k < (ls.filter on).length), (1 ≤ (ls.filter on)[k].2.2.1 ∧ (ls.filter on)[k].2.2.1 ≤ 1000) ∧ 0 ≤ findIt it (ls.filter on)[k].2.1 ∧ ((ls.filter on)[k].1.toList = code.toList → it.length - lev.getD (findIt it (ls.filter on)[k].2.1).toNat 0 ≤ d)) := fun k hk => by
      have hx := (List.mem_filter.1 (List.getElem_mem hk)).1
      refine ⟨hL.qty _ hx, (hL.fnd _ hx).2, fun he => ?_⟩
      have h1 := hL.rest _ hx
      rw [findIt_congr he] at h1
      omega
    have IH := Lib.hid ih
    clear ih hd h0
    generalize (ls.filter on) = act at *
    generalize hU : unitV it ls on part = u at *
    have HUU := Lib.hid hU
    clear hU
    go_enter Try.func41, Try.ntmps41
    go_wp2_with fail
    go_loopw [9, 14] (fun s i wr => ∃ k : Nat, k ≤ act.length ∧ i = .int .i64 k ∧ s = .int .i64 ((act.take k).foldl (thrS it part code u) 0) ∧ Below w.heap.size w wr) (fun _ i _ => act.length - (intOf i).toNat)
    case atStart => exact ⟨0, by omega, rfl, rfl, Below.refl _ _⟩
    case round =>
      obtain ⟨k, hk, rfl, rfl, hb⟩ := hrel
      by_cases hlt : k < act.length
      · obtain ⟨b, o, B2, m2, c2, rfl, hbl, hc0, hc1, hc2, hc3, hc4, hc5⟩ := flat_at (hl.keep hb) hlt
        have hs1 := (HBD.out k).1
        have hs2 := (HBD.out k).2
        have HTT := Lib.hid (HT.out k hlt)
        obtain ⟨⟨hq1, hq2⟩, hfd, hdd⟩ := HLQ.out k hlt
        have HDD := Lib.hid hdd
        clear hdd
        generalize (act.take k).foldl (thrS it part code u) 0 = s at *
-- ROUND
        have hs := below_alloc wr (.cells #[.string act[k].1, .string act[k].2.1, .int .i64 act[k].2.2.1, .int .i64 act[k].2.2.2.1, .int .i64 act[k].2.2.2.2.1, .slice B2 m2 c2] 90)
        have hB := below_on hb hs
        have d0 : (wr.alloc (.cells #[.string act[k].1, .string act[k].2.1, .int .i64 act[k].2.2.1, .int .i64 act[k].2.2.2.1, .int .i64 act[k].2.2.2.2.1, .slice B2 m2 c2] 90)).cell? ⟨wr.heap.size, 0, none⟩ = some (.string act[k].1) := by simp [go_sem]
        have d1 : (wr.alloc (.cells #[.string act[k].1, .string act[k].2.1, .int .i64 act[k].2.2.1, .int .i64 act[k].2.2.2.1, .int .i64 act[k].2.2.2.2.1, .slice B2 m2 c2] 90)).cell? ⟨wr.heap.size, 1, none⟩ = some (.string act[k].2.1) := by simp [go_sem]
        have d2 : (wr.alloc (.cells #[.string act[k].1, .string act[k].2.1, .int .i64 act[k].2.2.1, .int .i64 act[k].2.2.2.1, .int .i64 act[k].2.2.2.2.1, .slice B2 m2 c2] 90)).cell? ⟨wr.heap.size, 2, none⟩ = some (.int .i64 act[k].2.2.1) := by simp [go_sem]
        have dl : wr.heap.size < (wr.alloc (.cells #[.string act[k].1, .string act[k].2.1, .int .i64 act[k].2.2.1, .int .i64 act[k].2.2.2.1, .int .i64 act[k].2.2.2.2.1, .slice B2 m2 c2] 90)).heap.size := by simp
        cases he : (act[k].1.toList == code.toList)
        · have HE : Hid ((act.take (k + 1)).foldl (thrS it part code u) 0 = s) := by show _ = _; rw [HTT.out]; unfold thrS; rw [if_neg (by rw [he]; decide)]
          go_wp2_with fail
          go_roundw
          case rel => exact ⟨k + 1, by omega, by go_num, by first | (rw [HE.out]; done) | (rw [HE.out]; congr 1; split <;> omega), hB⟩
          case measure => simp [intOf]; omega
        have HFD := Lib.hid (HDD.out (by simpa using he))
        cases hp : (act[k].2.1.toList == part.toList)
        case true =>
          have HE : Hid ((act.take (k + 1)).foldl (thrS it part code u) 0 = min (s + act[k].2.2.1) 1000000001) := by show _ = _; rw [HTT.out]; unfold thrS; rw [if_pos he, if_pos hp]
          go_wp2_with fail
          go_roundw
          case rel => exact ⟨k + 1, by omega, by go_num, by first | (rw [HE.out]; done) | (rw [HE.out]; congr 1; split <;> omega), hB⟩
          case measure => simp [intOf]; omega
        obtain ⟨f4, f4b⟩ := findIt_bd it act[k].2.1
        go_wp2_with fail
        generalize wr.alloc (.cells #[.string act[k].1, .string act[k].2.1, .int .i64 act[k].2.2.1, .int .i64 act[k].2.2.2.1, .int .i64 act[k].2.2.2.2.1, .slice B2 m2 c2] 90) = wq at *
        have HN : w.heap.size ≤ wr.heap.size := hb.size
        generalize wr.heap.size = N at *
        clear hc0 hc1 hc2 hc3 hc4 hc5 hs hb hbl
        refine (implFindItem_any _ _ _ it _ _ (hi.keep hB)).mono ?_
        rintro e w3 ⟨rfl, hs⟩
        replace d0 := (hs.cell (p := ⟨N, 0, none⟩) dl).trans d0
        replace d1 := (hs.cell (p := ⟨N, 1, none⟩) dl).trans d1
        replace d2 := (hs.cell (p := ⟨N, 2, none⟩) dl).trans d2
        replace dl := Nat.lt_of_lt_of_le dl hs.size
        replace hB := below_on hB hs
        clear hs
        obtain ⟨qn, hqn⟩ : ∃ qn : Nat, findIt it act[k].2.1 = (qn : Int) := ⟨(findIt it act[k].2.1).toNat, by omega⟩
        have q1 : qn < it.length := by omega
        have q2 : (qn : Int) < (it.length : Int) := by omega
        obtain ⟨bi, oi, rfl, _, _, _, hk2, _⟩ := item_at (hi.keep hB) q1
        have HPH : Hid (phan it act[k].2.1 = (it[qn].2.2.1 == 2)) := by show _ = _; unfold phan; rw [hqn, Int.toNat_natCast, List.getD_eq_getElem?_getD, List.getElem?_eq_getElem q1]; rfl
        rw [hqn]
        have HQN := Lib.hid hqn
        have HFN := Lib.hid hfd
        clear hfd f4 f4b hqn
        cases g : (it[qn].2.2.1 == 2)
        · have HE : Hid ((act.take (k + 1)).foldl (thrS it part code u) 0 = s) := by show _ = _; rw [HTT.out]; unfold thrS; rw [if_pos he, if_neg (by rw [hp]; decide), HPH.out, g]; rfl
          go_wp2_with fail
          go_roundw
          case rel => exact ⟨k + 1, by omega, by go_num, by first | (rw [HE.out]; done) | (rw [HE.out]; congr 1; split <;> omega), hB⟩
          case measure => simp [intOf]; omega
        have HE : Hid ((act.take (k + 1)).foldl (thrS it part code u) 0 = min (s + act[k].2.2.1 * u act[k].2.1) 1000000001) := by show _ = _; rw [HTT.out]; unfold thrS; rw [if_pos he, if_neg (by rw [hp]; decide), HPH.out, g]; rfl
        have hu := HU.out act[k].2.1
        have hm0 : 0 ≤ act[k].2.2.1 * u act[k].2.1 := Int.mul_nonneg (by omega) hu.1
        have hm1 : act[k].2.2.1 * u act[k].2.1 ≤ 1000 * 1000000001 := Int.mul_le_mul hq2 hu.2 hu.1 (by omega)
        have hw1 : IntKind.i64.wrap (act[k].2.2.1 * u act[k].2.1) = act[k].2.2.1 * u act[k].2.1 := by apply IntWalk.i64_in <;> omega
        have hw2 : IntKind.i64.wrap (s + act[k].2.2.1 * u act[k].2.1) = s + act[k].2.2.1 * u act[k].2.1 := by apply IntWalk.i64_in <;> omega
        go_wp2_with fail
        clear hk2 g he hp
        go_region_held3 (fun w' => w'.cell? ⟨N, 1, none⟩ = some (.string act[k].2.1) ∧ w'.cell? ⟨N, 2, none⟩ = some (.int .i64 act[k].2.2.1) ∧ N < w'.heap.size ∧ Below w.heap.size w w')
          (first
            | exact ⟨d1, d2, dl, hB.drew⟩
            | (go_split_ands; refine ⟨?_, ?_, ?_, ?_⟩ <;> with_reducible assumption)
            | (go_split_ands; exact ⟨(hb3.cell (by with_reducible assumption)).trans (by with_reducible assumption), (hb3.cell (by with_reducible assumption)).trans (by with_reducible assumption), Nat.lt_of_lt_of_le (by with_reducible assumption) hb3.size, below_on (by with_reducible assumption) hb3⟩))
          (first
            | ((with_reducible refine (IH.out act[k].2.1 _ (hi.keep ?_) (hl.keep ?_) HFN.out HFD.out).mono ?_); (go_split_ands; with_reducible assumption); (go_split_ands; with_reducible assumption); rintro e w4 ⟨rfl, hb3⟩))
        all_goals
          go_split_ands
          have hB4 : Below w.heap.size w w4 := by with_reducible assumption
          clear hB
          have hB := hB4
          go_wp2_with fail
          go_roundw
          case rel => exact ⟨k + 1, by omega, by go_num, by first | (rw [HE.out]; done) | (rw [HE.out]; congr 1; split <;> omega), hB⟩
          case measure => simp [intOf]; omega
      · obtain rfl : k = act.length := by omega
        go_wp2_with fail
        go_ret
        exact ⟨ret_int HV.out.symm, hb⟩
end Go.Proofs.Ytlkolehdikfddaa
