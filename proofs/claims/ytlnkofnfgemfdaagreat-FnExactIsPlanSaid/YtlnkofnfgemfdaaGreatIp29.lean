/- Part 29 of the texts of this claim: The walk of takenOn; The walks of l1Sum and TakenUpTo. -/
import Derived.Test.YtlnkofnfgemfdaaGreatIp28
import Derived.Test.YtlnkofnfgemfdaaGreatIp27
import Derived.Test.YtlnkofnfgemfdaaGreatIp21
/- The walk of takenOn. -/
namespace Go.Proofs.YtlnkofnfgemfdaaGreat
open Go.RowKit
/-- The ending of takenOn. -/
def TakenEndI (p : Pt) (ds : List Dm) (l : List Pl) (item : ByteArray) (w : World) (e : Ending) (w' : World) : Prop := ∃ A n c, e = .returned (.tuple #[.slice A n c, .bool (takenOn p ds l item).2]) ∧ ((takenOn p ds l item).2 = true → ∃ g, A = some ⟨g, 0, none⟩ ∧ n = 1000 ∧ c = 1000 ∧ NumRow w' w.heap.size g 1000 1000 (takenOn p ds l item).1) ∧ Below w.heap.size w w'
theorem takenEndI_no {p : Pt} {ds : List Dm} {l : List Pl} {item : ByteArray} {w w' : World} {A : Option Addr} {n c : Nat} (hb : (takenOn p ds l item).2 = false) (h4 : Below w.heap.size w w') : TakenEndI p ds l item w (.returned (.tuple #[.slice A n c, .bool false])) w' :=
  ⟨A, n, c, by rw [hb], (fun h => by rw [hb] at h; cases h), h4⟩
theorem takenEndI_yes {p : Pt} {ds : List Dm} {l : List Pl} {item : ByteArray} {w w' : World} {g : Nat} (hb : (takenOn p ds l item).2 = true) (h : NumRow w' w.heap.size g 1000 1000 (takenOn p ds l item).1) (h4 : Below w.heap.size w w') : TakenEndI p ds l item w (.returned (.tuple #[.slice (some ⟨g, 0, none⟩) 1000 1000, .bool true])) w' :=
  ⟨_, _, _, by rw [hb], (fun _ => ⟨g, rfl, rfl, rfl, h⟩), h4⟩
theorem set_same (m : List Int) (i : Nat) : m.set i (m.getD i 0) = m := by
  by_cases h : i < m.length
  · rw [List.getD_eq_getElem?_getD, List.getElem?_eq_getElem h]; exact List.set_getElem_self h
  · exact List.set_eq_of_length_le (by omega)
set_option maxRecDepth 100000 in
set_option maxHeartbeats 8000000 in
theorem implTaken_any (r : PtR) (p : Pt) (A B : Option Addr) (n c m d : Nat) (ds : List Dm) (l : List Pl) (item : ByteArray) (w : World) (hp : PlantIn w r p) (hok : okPt p) (hds : DemandsIn w A n ds) (hl : PlannedsIn w B m l) (hpl : arePlanned p l = true) (had : areDemands ds = true) :
    Calls Tryz.prog 87 #[.agg #[.slice r.i.a r.i.n r.i.c, .slice r.l.a r.l.n r.l.c, .slice r.w.a r.w.n r.w.c, .slice r.e.a r.e.n r.e.c, .slice r.p.a r.p.n r.p.c, .slice r.s.a r.s.n r.s.c, .slice r.q.a r.q.n r.q.c], .slice A n c, .slice B m d, .string item] w (TakenEndI p ds l item w) := by
  have hmf : ∀ (fn : Fn) (first cap : Array Value) (w : World), (Instr.makeFunc fn first cap).run Tryz.prog w = .ok (.func fn first cap) w := fun _ _ _ _ => rfl
  have HEV := Lib.hid (fun k => takenD_days (item := item) hpl had k)
  have HEP := Lib.hid (fun k => takenP_days (item := item) hpl had k)
  have HDM := Lib.hid (fun k (hk : k < ds.length) => areDemands_mem had hk)
  have HPP := Lib.hid (arePlanned_parts hpl).2.2
  have hip := (arePlanned_parts hpl).1
  have HIP := Lib.hid hip
  have HD1 := Lib.hid (takenD_step p ds item)
  have HD2 := Lib.hid (takenD_few p ds item)
  have HD3 := Lib.hid (takenD_bad p ds l item)
  have HP1 := Lib.hid (takenP_step p ds l item)
  have HP2 := Lib.hid (takenP_few p ds l item)
  have HP3 := Lib.hid (takenP_bad p ds l item)
  have HA1 := Lib.hid (takenD_all p ds l item)
  have HA2 := Lib.hid (takenD_fewall p ds l item)
  have HA3 := Lib.hid (takenP_all p ds l item)
  have HA4 := Lib.hid (takenP_fewall p ds l item)
  have h16 := areDemands_len had
  have h500 := (arePlanned_parts hpl).2.1
  have HOK := Lib.hid hok
  clear hpl had hip hok
  have hnd := hds.1
  have hnl := hl.1
  subst hnd hnl
  obtain ⟨⟨a0, n0, c0⟩, ⟨a1, n1, c1⟩, ⟨a2, n2, c2⟩, ⟨a3, n3, c3⟩, ⟨a4, n4, c4⟩, ⟨a5, n5, c5⟩, ⟨a6, n6, c6⟩⟩ := r
  have HP := Lib.hid hp
  have HQ0 := Lib.hid hp.it
  dsimp only at HQ0 ⊢
  clear hp
  have hn0 : n0 = p.it.length := HQ0.out.1
  subst hn0
  have hb0 : Below w.heap.size w ((w.alloc (.cells #[.slice a0 p.it.length c0, .slice a1 n1 c1, .slice a2 n2 c2, .slice a3 n3 c3, .slice a4 n4 c4, .slice a5 n5 c5, .slice a6 n6 c6] 48)).alloc (.cells #[.string item] 9)) := below_on (below_alloc _ _) (below_alloc _ _)
  have B10 : BoxOf ((w.alloc (.cells #[.slice a0 p.it.length c0, .slice a1 n1 c1, .slice a2 n2 c2, .slice a3 n3 c3, .slice a4 n4 c4, .slice a5 n5 c5, .slice a6 n6 c6] 48)).alloc (.cells #[.string item] 9)) w.heap.size [.slice a0 p.it.length c0, .slice a1 n1 c1, .slice a2 n2 c2, .slice a3 n3 c3, .slice a4 n4 c4, .slice a5 n5 c5, .slice a6 n6 c6] := (boxOf_alloc w #[.slice a0 p.it.length c0, .slice a1 n1 c1, .slice a2 n2 c2, .slice a3 n3 c3, .slice a4 n4 c4, .slice a5 n5 c5, .slice a6 n6 c6] 48).keep (below_alloc _ _)
  have hz1 : (w.alloc (.cells #[.slice a0 p.it.length c0, .slice a1 n1 c1, .slice a2 n2 c2, .slice a3 n3 c3, .slice a4 n4 c4, .slice a5 n5 c5, .slice a6 n6 c6] 48)).heap.size = w.heap.size + 1 := by simp
  have B20 : BoxOf ((w.alloc (.cells #[.slice a0 p.it.length c0, .slice a1 n1 c1, .slice a2 n2 c2, .slice a3 n3 c3, .slice a4 n4 c4, .slice a5 n5 c5, .slice a6 n6 c6] 48)).alloc (.cells #[.string item] 9)) (w.heap.size + 1) [.string item] := by rw [← hz1]; exact boxOf_alloc _ #[.string item] 9
  have hz2 : ((w.alloc (.cells #[.slice a0 p.it.length c0, .slice a1 n1 c1, .slice a2 n2 c2, .slice a3 n3 c3, .slice a4 n4 c4, .slice a5 n5 c5, .slice a6 n6 c6] 48)).alloc (.cells #[.string item] 9)).heap.size = w.heap.size + 2 := by simp
  go_enter Tryz.func87, Tryz.ntmps87
  go_wp2_with (at_make; refine wpList_make_nums rfl _ _ rfl w.heap.size 1000 rfl rfl rfl rfl (by omega) (by simp; omega) ?_; intro w5 hA hA2 hA3)
  have hs := below_alloc w5 (.cells #[.slice (some ⟨w.heap.size + 2, 0, none⟩) 1000 1000] 24)
  have hb1 : Below w.heap.size w (w5.alloc (.cells #[.slice (some ⟨w.heap.size + 2, 0, none⟩) 1000 1000] 24)) := below_on (below_on hb0 hA2) hs
  have B1 := (B10.keep hA2).keep hs
  have B2 := (B20.keep hA2).keep hs
  have B3 : BoxOf (w5.alloc (.cells #[.slice (some ⟨w.heap.size + 2, 0, none⟩) 1000 1000] 24)) w5.heap.size [.slice (some ⟨w.heap.size + 2, 0, none⟩) 1000 1000] := boxOf_alloc _ #[.slice (some ⟨w.heap.size + 2, 0, none⟩) 1000 1000] 24
  have hA1 : NumRow (w5.alloc (.cells #[.slice (some ⟨w.heap.size + 2, 0, none⟩) 1000 1000] 24)) w.heap.size (w.heap.size + 2) 1000 1000 (tkTo ((evsD p item ds).take 0)) := by rw [hz2] at hA; exact hA.keep hs
  have hgn : w.heap.size + 2 < w5.heap.size := by rw [hz2] at hA3; exact hA3
  clear hA hA2 hA3 hb0 B10 B20 hz1 hz2 hs
  generalize hV : (w5.alloc (.cells #[.slice (some ⟨w.heap.size + 2, 0, none⟩) 1000 1000] 24)) = V at *
  clear hV
  generalize hgi : w.heap.size + 2 = gi at *
  generalize w5.heap.size = N3 at *
  go_loopw [21] (fun i wr => ∃ k : Nat, k ≤ ds.length ∧ i = .int .i64 k ∧ Hid (few ((evsD p item ds).take k) = true) ∧ NumRow wr w.heap.size gi 1000 1000 (tkTo ((evsD p item ds).take k)) ∧ BoxOf wr w.heap.size [.slice a0 p.it.length c0, .slice a1 n1 c1, .slice a2 n2 c2, .slice a3 n3 c3, .slice a4 n4 c4, .slice a5 n5 c5, .slice a6 n6 c6] ∧ BoxOf wr (w.heap.size + 1) [.string item] ∧ BoxOf wr N3 [.slice (some ⟨gi, 0, none⟩) 1000 1000] ∧ Below w.heap.size w wr) (fun i _ => ds.length - (intOf i).toNat)
  case atStart => exact ⟨0, by omega, rfl, rfl, hA1, B1, B2, B3, hb1⟩
  case round =>
    clear hA1 B1 B2 B3 hb1
    obtain ⟨k, hk, rfl, HF, hA, B1, B2, B3, hb⟩ := hrel
    by_cases hlt : k < ds.length
    case neg =>
      obtain rfl : k = ds.length := by omega
      rw [HA1.out] at hA
      have HF0 : Hid (few (evsD p item ds ++ (evsP p item l).take 0) = true) := HA2.out.symm.trans HF.out
      clear HF
      go_wp2_with fail
      go_loopw [68] (fun i wr => ∃ k : Nat, k ≤ l.length ∧ i = .int .i64 k ∧ Hid (few (evsD p item ds ++ (evsP p item l).take k) = true) ∧ NumRow wr w.heap.size gi 1000 1000 (tkTo (evsD p item ds ++ (evsP p item l).take k)) ∧ BoxOf wr w.heap.size [.slice a0 p.it.length c0, .slice a1 n1 c1, .slice a2 n2 c2, .slice a3 n3 c3, .slice a4 n4 c4, .slice a5 n5 c5, .slice a6 n6 c6] ∧ BoxOf wr (w.heap.size + 1) [.string item] ∧ BoxOf wr N3 [.slice (some ⟨gi, 0, none⟩) 1000 1000] ∧ Below w.heap.size w wr) (fun i _ => l.length - (intOf i).toNat)
      case atStart => exact ⟨0, by omega, rfl, HF0, hA, B1, B2, B3, hb⟩
      case round =>
        clear hA B1 B2 B3 hb HF0
        obtain ⟨k, hk, rfl, HF, hA, B1, B2, B3, hb⟩ := hrel
        by_cases hlt : k < l.length
        case neg =>
          obtain rfl : k = l.length := by omega
          rw [HA3.out] at hA
          have HFF := Lib.hid (HA4.out.symm.trans HF.out)
          have x3 := B3.2 0 _ rfl
          go_wp2_with fail
          go_ret2
          exact takenEndI_yes HFF.out hA hb
        obtain ⟨b, o, rfl, hbl, hc0, hc1, hc2, hc3, hc4⟩ := planned_at (hl.keep hb) hlt
        have hs := below_alloc wr (.cells #[.string l[k].1, .int .i64 l[k].2.1, .int .i64 l[k].2.2.1, .int .i64 l[k].2.2.2.1, .bool l[k].2.2.2.2] 93)
        have BX : BoxOf (wr.alloc (.cells #[.string l[k].1, .int .i64 l[k].2.1, .int .i64 l[k].2.2.1, .int .i64 l[k].2.2.2.1, .bool l[k].2.2.2.2] 93)) wr.heap.size [.string l[k].1, .int .i64 l[k].2.1, .int .i64 l[k].2.2.1, .int .i64 l[k].2.2.2.1, .bool l[k].2.2.2.2] := boxOf_alloc wr #[.string l[k].1, .int .i64 l[k].2.1, .int .i64 l[k].2.2.1, .int .i64 l[k].2.2.2.1, .bool l[k].2.2.2.2] 93
        replace hb := below_on hb hs
        replace B1 := B1.keep hs
        replace B2 := B2.keep hs
        replace B3 := B3.keep hs
        have hgx : gi < wr.heap.size := hA.lt.2
        replace hA := hA.keep hs
        have HST := Lib.hid (HP1.out k hlt)
        have HFT := Lib.hid (HP2.out k hlt)
        have hdy := HEP.out k
        have HPB := Lib.hid (HP3.out k hlt)
        obtain ⟨z1, z2, ⟨z3, z4⟩, ⟨z5, z6⟩, z7, z8⟩ := HPP.out k hlt
        generalize hMM : tkTo (evsD p item ds ++ (evsP p item l).take k) = M at *
        clear hMM
        go_wp2_with fail
        generalize (wr.alloc (.cells #[.string l[k].1, .int .i64 l[k].2.1, .int .i64 l[k].2.2.1, .int .i64 l[k].2.2.2.1, .bool l[k].2.2.2.2] 93)) = wq at *
        generalize wr.heap.size = NX at *
        clear hc0 hc1 hc2 hc3 hc4 hbl hs
        obtain ⟨dn, hdn⟩ : ∃ dn : Nat, l[k].2.2.1 = (dn : Int) := ⟨(l[k].2.2.1).toNat, by omega⟩
        have hd1 : dn < 1000 := by omega
        have HDN := Lib.hid hdn
        rw [hdn]
        have hmc := hdy.cell dn
        refine (take_any ⟨⟨a0, p.it.length, c0⟩, ⟨a1, n1, c1⟩, ⟨a2, n2, c2⟩, ⟨a3, n3, c3⟩, ⟨a4, n4, c4⟩, ⟨a5, n5, c5⟩, ⟨a6, n6, c6⟩⟩ p w.heap.size (w.heap.size + 1) N3 w.heap.size gi dn l[k].1 item l[k].2.1 M _ w HP.out hb HOK.out HIP.out z1 B1 B2 B3 hA hd1 (by omega) (by omega)).mono ?_
        rintro e w8 ⟨rfl, hA8, ho⟩
        replace B1 := B1.only ho (by omega)
        replace B2 := B2.only ho (by omega)
        replace B3 := B3.only ho (by omega)
        replace hb := below_only hb ho (by omega) hb.size
        clear ho
        have HU : Hid (unitAt p item l[k].1 l[k].2.2.1 = unitAt p item l[k].1 dn) := by show _ = _; rw [hdn]
        generalize unitAt p item l[k].1 (dn : Int) = u at *
        by_cases hu : u ≤ 1000000000
        case neg =>
          have hde : decide (u ≤ 1000000000) = false := decide_eq_false hu
          rw [hde]
          have HBB := HPB.out (by rw [HU.out]; omega)
          go_wp2_with fail
          go_ret2
          exact takenEndI_no HBB hb
        have hde : decide (u ≤ 1000000000) = true := decide_eq_true hu
        rw [hde]
        have HFT1 : Hid (few (evsD p item ds ++ (evsP p item l).take (k + 1)) = true) := by show _ = _; rw [HFT.out, HF.out, HU.out, hde]; rfl
        have HYY : Hid (tkTo (evsD p item ds ++ (evsP p item l).take (k + 1)) = M.set dn (M.getD dn 0 + u * l[k].2.1)) := by
          show _ = _
          rw [HST.out]; unfold tkStep plV; simp only []; rw [HDN.out, Int.toNat_natCast]; (try rw [HDN.out] at HU); rw [HU.out]
        go_wp2_with fail
        go_roundw
        case rel => exact ⟨k + 1, by omega, by go_num, HFT1.out, by rw [HYY.out]; exact hA8, B1, B2, B3, hb⟩
        case measure => simp [intOf]; omega
    obtain ⟨b, o, rfl, hbl, hc0, hc1, hc2, hc3, hc4⟩ := demand_at (hds.keep hb) hlt
    have hs := below_alloc wr (.cells #[.int .i64 ds[k].1, .string ds[k].2.1, .int .i64 ds[k].2.2.1, .int .i64 ds[k].2.2.2.1, .int .i64 ds[k].2.2.2.2] 128)
    have BX : BoxOf (wr.alloc (.cells #[.int .i64 ds[k].1, .string ds[k].2.1, .int .i64 ds[k].2.2.1, .int .i64 ds[k].2.2.2.1, .int .i64 ds[k].2.2.2.2] 128)) wr.heap.size [.int .i64 ds[k].1, .string ds[k].2.1, .int .i64 ds[k].2.2.1, .int .i64 ds[k].2.2.2.1, .int .i64 ds[k].2.2.2.2] := boxOf_alloc wr #[.int .i64 ds[k].1, .string ds[k].2.1, .int .i64 ds[k].2.2.1, .int .i64 ds[k].2.2.2.1, .int .i64 ds[k].2.2.2.2] 128
    replace hb := below_on hb hs
    replace B1 := B1.keep hs
    replace B2 := B2.keep hs
    replace B3 := B3.keep hs
    have hgx : gi < wr.heap.size := hA.lt.2
    replace hA := hA.keep hs
    have HST := Lib.hid (HD1.out k hlt)
    have HFT := Lib.hid (HD2.out k hlt)
    have hdy := HEV.out k
    have HPB := Lib.hid (HD3.out k hlt)
    obtain ⟨z3, z4, z5, z6⟩ := HDM.out k hlt
    generalize hMM : tkTo ((evsD p item ds).take k) = M at *
    clear hMM
    obtain ⟨b0, b1, b2, b3, b4, b5, b6, bl⟩ := B1.seven
    go_wp2_with fail
    clear b0 b1 b2 b3 b4 b5 b6 bl
    generalize (wr.alloc (.cells #[.int .i64 ds[k].1, .string ds[k].2.1, .int .i64 ds[k].2.2.1, .int .i64 ds[k].2.2.2.1, .int .i64 ds[k].2.2.2.2] 128)) = wq at *
    generalize wr.heap.size = NX at *
    clear hc0 hc1 hc2 hc3 hc4 hbl hs
    refine (implFindItem_any _ _ _ p.it _ _ (HQ0.out.keep hb)).mono ?_
    rintro e w6 ⟨rfl, hs⟩
    replace hb := below_on hb hs
    replace B1 := B1.keep hs
    replace B2 := B2.keep hs
    replace B3 := B3.keep hs
    replace BX := BX.keep hs
    replace hA := hA.keep hs
    clear hs
    obtain ⟨dn, hdn⟩ : ∃ dn : Nat, ds[k].2.2.2.1 = (dn : Int) := ⟨(ds[k].2.2.2.1).toNat, by omega⟩
    have hd1 : dn < 1000 := by omega
    have hd2 : (dn : Int) < (1000 : Int) := by omega
    have HDN := Lib.hid hdn
    rw [hdn] at BX
    obtain ⟨f1, f2⟩ := findIt_bd p.it ds[k].2.1
    have x1 := BX.2 1 _ rfl
    have x2 := BX.2 2 _ rfl
    have x3 := BX.2 3 _ rfl
    have i0 := B2.2 0 _ rfl
    have o0 := B3.2 0 _ rfl
    cases heq : (ds[k].2.1.toList == item.toList)
    case true =>
      have HN : Hid (dmN p item ds[k] = 1) := by show _ = _; unfold dmN; rw [if_pos heq]
      have HFT1 : Hid (few ((evsD p item ds).take (k + 1)) = true) := by show _ = _; rw [HFT.out, HF.out, HN.out]; rfl
      have hmc := hdy.cell dn
      generalize hma : M.getD dn 0 = mv at *
      have HMA := Lib.hid hma
      clear hma
      have HYY : Hid (tkTo ((evsD p item ds).take (k + 1)) = M.set dn (mv + ds[k].2.2.1)) := by
        show _ = _
        rw [HST.out]; unfold tkStep dmV; simp only []; rw [HN.out, HDN.out, Int.toNat_natCast, HMA.out]; simp
      have cA := hA.cell (j := dn) (by rw [hA.len]; exact hd1)
      have cA2 : w6.cell? ⟨gi, dn, none⟩ = some (.int .i64 mv) := by rw [cA, ← HMA.out, List.getD_eq_getElem?_getD, List.getElem?_eq_getElem (by rw [hA.len]; exact hd1)]; rfl
      have fA := hA.frozen dn
      clear cA
      go_wp2_with fail
      go_still_tail 9, (by kernel_rfl)
      change wpList _ _ _ _ _ w6.drew
      replace hA := hA.keep (Below.refl w6.heap.size w6).drew
      replace B1 := B1.keep (Below.refl w6.heap.size w6).drew
      replace B2 := B2.keep (Below.refl w6.heap.size w6).drew
      replace B3 := B3.keep (Below.refl w6.heap.size w6).drew
      replace cA2 : w6.drew.cell? ⟨gi, dn, none⟩ = some (.int .i64 mv) := cA2
      replace fA : w6.drew.frozen? ⟨gi, dn, none⟩ = false := fA
      replace hb := hb.drew
      clear x1 x2 x3 i0 o0 BX
      generalize w6.drew = W8 at *
      go_wp2_with fail
      go_roundw
      case rel => exact ⟨k + 1, by omega, by go_num, HFT1.out, by rw [HYY.out]; exact hA.set dn _, B1.off (by show gi ≠ w.heap.size; omega) _, B2.off (by show gi ≠ w.heap.size + 1; omega) _, B3.off (by show gi ≠ N3; omega) _, hb.setCell (p := ⟨gi, dn, none⟩) (by show w.heap.size ≤ gi; omega) _⟩
      case measure => simp [intOf]; omega
    by_cases hf : 0 ≤ findIt p.it ds[k].2.1
    case neg =>
      have HN : Hid (dmN p item ds[k] = 0) := by show _ = _; unfold dmN; rw [if_neg (by rw [heq]; decide), decide_eq_false hf]; rfl
      have HFT1 : Hid (few ((evsD p item ds).take (k + 1)) = true) := by show _ = _; rw [HFT.out, HF.out, HN.out]; rfl
      have HYY : Hid (tkTo ((evsD p item ds).take (k + 1)) = M) := by
        show _ = _
        rw [HST.out]; unfold tkStep dmV; simp only []; rw [HN.out, HDN.out, Int.toNat_natCast, Int.zero_mul, Int.add_zero]; exact set_same M dn
      go_wp2_with fail
      go_roundw
      case rel => exact ⟨k + 1, by omega, by go_num, HFT1.out, by rw [HYY.out]; exact hA, B1, B2, B3, hb⟩
      case measure => simp [intOf]; omega
    obtain ⟨qn, hqn⟩ : ∃ qn : Nat, findIt p.it ds[k].2.1 = (qn : Int) := ⟨(findIt p.it ds[k].2.1).toNat, by omega⟩
    have q1 : qn < p.it.length := by omega
    have q2 : (qn : Int) < (p.it.length : Int) := by omega
    have q3 : (0 : Int) ≤ (qn : Int) := by omega
    obtain ⟨bi, oi, hae, hbi, t0, t1, t2, _⟩ := item_at (HQ0.out.keep hb) q1
    have HPH : Hid (phan p.it ds[k].2.1 = (p.it[qn].2.2.1 == 2)) := by show _ = _; unfold phan; rw [hqn, Int.toNat_natCast, List.getD_eq_getElem?_getD, List.getElem?_eq_getElem q1]; rfl
    have HFD := Lib.hid hf
    rw [hqn]
    clear hf f1 f2
    obtain ⟨b0, b1, b2, b3, b4, b5, b6, bl⟩ := B1.seven
    have HAE := Lib.hid hae
    rw [hae] at b0
    cases hk2 : (p.it[qn].2.2.1 == 2)
    case false =>
      have HN : Hid (dmN p item ds[k] = 0) := by show _ = _; unfold dmN; rw [if_neg (by rw [heq]; decide), HPH.out, hk2]; simp
      clear hae
      have HFT1 : Hid (few ((evsD p item ds).take (k + 1)) = true) := by show _ = _; rw [HFT.out, HF.out, HN.out]; rfl
      have HYY : Hid (tkTo ((evsD p item ds).take (k + 1)) = M) := by
        show _ = _
        rw [HST.out]; unfold tkStep dmV; simp only []; rw [HN.out, HDN.out, Int.toNat_natCast, Int.zero_mul, Int.add_zero]; exact set_same M dn
      go_wp2_with fail
      go_roundw
      case rel => exact ⟨k + 1, by omega, by go_num, HFT1.out, by rw [HYY.out]; exact hA, B1, B2, B3, hb⟩
      case measure => simp [intOf]; omega
    have HN : Hid (dmN p item ds[k] = unitAt p item ds[k].2.1 ds[k].2.2.2.1) := by show _ = _; unfold dmN; rw [if_neg (by rw [heq]; decide), HPH.out, hk2, decide_eq_true HFD.out]; rfl
    clear hae
    go_wp2_with fail
    clear b0 b1 b2 b3 b4 b5 b6 bl t0 t1 t2 hbi x1 x2 x3 i0 o0 BX
    have hmc := hdy.cell dn
    refine (take_any ⟨⟨a0, p.it.length, c0⟩, ⟨a1, n1, c1⟩, ⟨a2, n2, c2⟩, ⟨a3, n3, c3⟩, ⟨a4, n4, c4⟩, ⟨a5, n5, c5⟩, ⟨a6, n6, c6⟩⟩ p w.heap.size (w.heap.size + 1) N3 w.heap.size gi dn ds[k].2.1 item ds[k].2.2.1 M _ w HP.out hb HOK.out HIP.out HFD.out B1 B2 B3 hA hd1 (by omega) (by omega)).mono ?_
    rintro e w8 ⟨rfl, hA8, ho⟩
    replace B1 := B1.only ho (by omega)
    replace B2 := B2.only ho (by omega)
    replace B3 := B3.only ho (by omega)
    replace hb := below_only hb ho (by omega) hb.size
    clear ho
    have HU : Hid (dmN p item ds[k] = unitAt p item ds[k].2.1 dn) := by show _ = _; rw [HN.out, HDN.out]
    generalize unitAt p item ds[k].2.1 (dn : Int) = u at *
    by_cases hu : u ≤ 1000000000
    case neg =>
      have hde : decide (u ≤ 1000000000) = false := decide_eq_false hu
      rw [hde]
      have HBB := HPB.out (by rw [HU.out]; omega)
      go_wp2_with fail
      go_ret2
      exact takenEndI_no HBB hb
    have hde : decide (u ≤ 1000000000) = true := decide_eq_true hu
    rw [hde]
    have HFT1 : Hid (few ((evsD p item ds).take (k + 1)) = true) := by show _ = _; rw [HFT.out, HF.out, HU.out, hde]; rfl
    have HYY : Hid (tkTo ((evsD p item ds).take (k + 1)) = M.set dn (M.getD dn 0 + u * ds[k].2.2.1)) := by
      show _ = _
      rw [HST.out]; unfold tkStep dmV; simp only []; rw [HDN.out, Int.toNat_natCast]; (try rw [HDN.out] at HU); rw [HU.out]
    go_wp2_with fail
    go_roundw
    case rel => exact ⟨k + 1, by omega, by go_num, HFT1.out, by rw [HYY.out]; exact hA8, B1, B2, B3, hb⟩
    case measure => simp [intOf]; omega
end Go.Proofs.YtlnkofnfgemfdaaGreat
/- The walks of l1Sum and TakenUpTo. -/
namespace Go.Proofs.YtlnkofnfgemfdaaGreat
open Go.RowKit
theorem IntsIn.take {w : World} {A : Option Addr} {n k : Nat} {l : List Int} (h : IntsIn w A n l) (hk : k ≤ n) : IntsIn w A k (l.take k) := by
  obtain ⟨h1, h2⟩ := h
  have e : RowsIn intF w A n l := ⟨h1, by rw [intF_flat]; exact h2⟩
  have e2 := e.take hk
  exact ⟨e2.1, by have := e2.2; rw [intF_flat] at this; exact this⟩
theorem day_wf {day : Int} (h : (Lit.int .i64 day).wf = true) : -9223372036854775808 ≤ day ∧ day ≤ 9223372036854775807 := by
  simp [Lit.wf, IntKind.min, IntKind.max, IntKind.signed, IntKind.bits] at h
  omega
theorem takenUpTo_no {p : Pt} {ds : List Dm} {l : List Pl} {item : ByteArray} (day : Int) (h : takes p ds l item = false) : takenUpTo p ds l item day = (0, false) := by unfold takenUpTo; rw [if_neg (by rw [h]; decide)]
theorem takenUpTo_yes {p : Pt} {ds : List Dm} {l : List Pl} {item : ByteArray} (day : Int) (h : takes p ds l item = true) : takenUpTo p ds l item day = (prefS (takenOn p ds l item).1 (cutD day), true) := by unfold takenUpTo; rw [if_pos h]
theorem takes_eq {p : Pt} {ds : List Dm} {l : List Pl} {item : ByteArray} {b : Bool} (h1 : arePlanned p l = true) (h2 : areDemands ds = true) (h3 : 0 ≤ findIt p.it item) (h4 : (takenOn p ds l item).2 = b) : takes p ds l item = b := by unfold takes; rw [h1, h2, decide_eq_true h3, h4]; rfl
theorem pref_take (M : List Int) (k j : Nat) (h : j ≤ k) : prefS (M.take k) j = prefS M j := by unfold prefS; rw [List.take_take, Nat.min_eq_left h]
set_option maxRecDepth 100000 in
theorem l1Sum_pref (A : Option Addr) (n c : Nat) (l : List Int) (w : World) (hl : IntsIn w A n l) (hb : ∀ k, -9000000000000000000 ≤ prefS l k ∧ prefS l k ≤ 9000000000000000000) :
    Calls Tryz.prog 90 #[.slice A n c] w fun e w' => e = .returned (.int .i64 (prefS l l.length)) ∧ w = w' := by
  have hn := hl.len
  obtain rfl := hl.1
  have HB := Lib.hid hb
  clear hb
  go_enter Tryz.func90, Tryz.ntmps90
  go_wp2
  go_loop [3, 4] (fun s i => ∃ k : Nat, k ≤ l.length ∧ i = .int .i64 k ∧ s = .int .i64 (prefS l k)) (fun _ i => l.length - (intOf i).toNat)
  case atStart => exact ⟨0, by omega, rfl, by simp [prefS]⟩
  case round =>
    obtain ⟨k, hk, rfl, rfl⟩ := hrel
    by_cases hlt : k < l.length
    · obtain ⟨b, o, rfl, hbl, hc⟩ := hl.at_ hlt
      have HS : Hid (prefS l (k + 1) = prefS l k + l[k]) := by show _ = _; rw [pref_succ l k hlt, List.getD_eq_getElem?_getD, List.getElem?_eq_getElem hlt]; rfl
      have h2 := HB.out (k + 1)
      rw [HS.out] at h2
      generalize prefS l k = s at *
      have hw : IntKind.i64.wrap (s + l[k]) = s + l[k] := IntWalk.i64_in _ (by omega)
      go_wp2
      go_round
      case rel => exact ⟨k + 1, by omega, by go_num, by rw [HS.out]⟩
      case measure => simp [intOf]; omega
    · obtain rfl : k = l.length := by omega
      go_wp2
      go_ret
      exact ⟨rfl, rfl⟩
set_option maxRecDepth 100000 in
set_option maxHeartbeats 4000000 in
theorem specTakenUpTo_any (r : PtR) (p : Pt) (A B : Option Addr) (n c m d : Nat) (ds : List Dm) (l : List Pl) (item : ByteArray) (day : Int) (w : World) (hp : PlantIn w r p) (hok : okPt p) (hds : DemandsIn w A n ds) (hokd : ∀ x ∈ ds, okDm x) (_hnc : n ≤ c) (hl : PlannedsIn w B m l) (hokl : ∀ x ∈ l, okPl x) (hday : -9223372036854775808 ≤ day ∧ day ≤ 9223372036854775807) :
    Calls Tryz.prog 27 #[.agg #[.slice r.i.a r.i.n r.i.c, .slice r.l.a r.l.n r.l.c, .slice r.w.a r.w.n r.w.c, .slice r.e.a r.e.n r.e.c, .slice r.p.a r.p.n r.p.c, .slice r.s.a r.s.n r.s.c, .slice r.q.a r.q.n r.q.c], .slice A n c, .slice B m d, .string item, .int .i64 day] w (PairI w (takenUpTo p ds l item day)) := by
  obtain ⟨⟨a0, n0, c0⟩, ⟨a1, n1, c1⟩, ⟨a2, n2, c2⟩, ⟨a3, n3, c3⟩, ⟨a4, n4, c4⟩, ⟨a5, n5, c5⟩, ⟨a6, n6, c6⟩⟩ := r
  have HP := Lib.hid hp
  have HQ0 := Lib.hid hp.it
  dsimp only at HQ0 ⊢
  clear hp
  have HO := Lib.hid hok
  have HOD := Lib.hid hokd
  have HOL := Lib.hid hokl
  clear hok hokd hokl
  have hb := below_alloc w (.cells #[.slice a0 n0 c0, .slice a1 n1 c1, .slice a2 n2 c2, .slice a3 n3 c3, .slice a4 n4 c4, .slice a5 n5 c5, .slice a6 n6 c6] 48)
  have B0 : BoxOf (w.alloc (.cells #[.slice a0 n0 c0, .slice a1 n1 c1, .slice a2 n2 c2, .slice a3 n3 c3, .slice a4 n4 c4, .slice a5 n5 c5, .slice a6 n6 c6] 48)) w.heap.size [.slice a0 n0 c0, .slice a1 n1 c1, .slice a2 n2 c2, .slice a3 n3 c3, .slice a4 n4 c4, .slice a5 n5 c5, .slice a6 n6 c6] := boxOf_alloc w #[.slice a0 n0 c0, .slice a1 n1 c1, .slice a2 n2 c2, .slice a3 n3 c3, .slice a4 n4 c4, .slice a5 n5 c5, .slice a6 n6 c6] 48
  go_enter Tryz.func27, Tryz.ntmps27
  go_wp2_with fail
  generalize (w.alloc (.cells #[.slice a0 n0 c0, .slice a1 n1 c1, .slice a2 n2 c2, .slice a3 n3 c3, .slice a4 n4 c4, .slice a5 n5 c5, .slice a6 n6 c6] 48)) = V at *
  refine (specArePlanned_any ⟨⟨a0, n0, c0⟩, ⟨a1, n1, c1⟩, ⟨a2, n2, c2⟩, ⟨a3, n3, c3⟩, ⟨a4, n4, c4⟩, ⟨a5, n5, c5⟩, ⟨a6, n6, c6⟩⟩ p _ _ _ l _ (HP.out.keep hb) HO.out (hl.keep hb) HOL.out).mono ?_
  rintro e w1 ⟨rfl, hs⟩
  replace hb := below_on hb hs
  replace B0 := B0.keep hs
  clear hs
  obtain ⟨b0, b1, b2, b3, b4, b5, b6, bl⟩ := B0.seven
  cases g1 : arePlanned p l
  · go_wp2_with fail
    go_ret2
    exact pairI_mk (takenUpTo_no _ (by unfold takes; rw [g1]; rfl)) hb
  go_wp2_with fail
  refine (specAreDemands_any _ _ _ ds _ (hds.keep hb) HOD.out).mono ?_
  rintro e w2 ⟨rfl, hs⟩
  clear b0 b1 b2 b3 b4 b5 b6 bl
  replace hb := below_on hb hs
  replace B0 := B0.keep hs
  clear hs
  obtain ⟨b0, b1, b2, b3, b4, b5, b6, bl⟩ := B0.seven
  cases g2 : areDemands ds
  · go_wp2_with fail
    go_ret2
    exact pairI_mk (takenUpTo_no _ (by unfold takes; rw [g1, g2]; rfl)) hb
  go_wp2_with fail
  refine (specFindItem_any _ _ _ p.it _ _ (HQ0.out.keep hb)).mono ?_
  rintro e w3 ⟨rfl, rfl⟩
  by_cases g3 : 0 ≤ findIt p.it item
  case neg =>
    have g4 : findIt p.it item < 0 := by omega
    go_wp2_with fail
    go_ret2
    exact pairI_mk (takenUpTo_no _ (by unfold takes; rw [g1, g2, decide_eq_false (by omega)]; rfl)) hb
  have g4 : ¬ findIt p.it item < 0 := by omega
  go_wp2_with fail
  clear b0 b1 b2 b3 b4 b5 b6 bl
  refine (specTaken_any ⟨⟨a0, n0, c0⟩, ⟨a1, n1, c1⟩, ⟨a2, n2, c2⟩, ⟨a3, n3, c3⟩, ⟨a4, n4, c4⟩, ⟨a5, n5, c5⟩, ⟨a6, n6, c6⟩⟩ p _ _ _ _ _ _ ds l item _ (HP.out.keep hb) (hds.keep hb) (hl.keep hb) g1 g2).mono ?_
  rintro e w4 ⟨g, M, rfl, hA, hdy, hM, hs⟩
  replace hb := below_on hb hs
  replace B0 := B0.keep hs
  cases g5 : (takenOn p ds l item).2
  · go_wp2_with fail
    go_ret2
    exact pairI_mk (takenUpTo_no _ (takes_eq g1 g2 g3 g5)) hb
  have HF : Hid (takenUpTo p ds l item day = (prefS M (cutD day), true)) := by show _ = _; rw [takenUpTo_yes _ (takes_eq g1 g2 g3 g5), hM g5]
  have hml := hdy.len
  have hin : IntsIn w4 (some ⟨g, 0, none⟩) 1000 M := hA.ints (by omega)
  have HPB : Hid (∀ k j, -9000000000000000000 ≤ prefS (M.take k) j ∧ prefS (M.take k) j ≤ 9000000000000000000) := fun k j => by
    have hd := hdy.sum
    rcases Nat.lt_or_ge k j with h | h
    · have h1 := pref_le M hdy.pos k
      have : prefS (M.take k) j = prefS M k := by unfold prefS; rw [List.take_take, Nat.min_eq_right (by omega)]
      omega
    · have h1 := pref_le M hdy.pos j
      rw [pref_take M k j h]; omega
  have HEQ : Hid (∀ k, k ≤ 1000 → prefS (M.take k) (M.take k).length = prefS M k) := fun k hk => by
    rw [List.length_take, Nat.min_eq_left (by omega), pref_take M k k (Nat.le_refl _)]
  have HIN := Lib.hid (fun k (hk : k ≤ 1000) => hin.take (k := k) hk)
  clear g1 g2 g3 g4 g5 hM hA hs hin hdy
  rcases Int.lt_or_le day 0 with d1 | d1
  · have e1 : cutD day = 0 := by unfold cutD; omega
    rw [e1] at HF
    have d2 : ¬ (999 : Int) < day := by omega
    have d3 : day < 999 := by omega
    have d4 : day + 1 ≤ 0 := by omega
    have d5 : ¬ 0 < day + 1 := by omega
    have hw : IntKind.i64.wrap (day + 1) = day + 1 := IntWalk.i64_in _ (by omega)
    have hk := HIN.out 0 (by omega)
    have h9 := HEQ.out 0 (by omega)
    go_wp2_with fail
    refine (l1Sum_pref _ _ _ (M.take 0) _ hk (fun j => HPB.out 0 j)).mono ?_
    rintro e w5 ⟨rfl, rfl⟩
    rw [h9]
    go_wp2_with fail
    go_ret2
    exact pairI_mk HF.out hb
  rcases Int.lt_or_le 999 day with d2 | d2
  · have e1 : cutD day = 1000 := by unfold cutD; omega
    rw [e1] at HF
    have hk := HIN.out 1000 (by omega)
    have h9 := HEQ.out 1000 (by omega)
    go_wp2_with fail
    refine (l1Sum_pref _ _ _ (M.take 1000) _ hk (fun j => HPB.out 1000 j)).mono ?_
    rintro e w5 ⟨rfl, rfl⟩
    rw [h9]
    go_wp2_with fail
    go_ret2
    exact pairI_mk HF.out hb
  · obtain ⟨dn, rfl⟩ : ∃ dn : Nat, day = (dn : Int) := ⟨day.toNat, by omega⟩
    have e1 : cutD (dn : Int) = dn + 1 := by unfold cutD; omega
    rw [e1] at HF
    have d3 : ¬ (999 : Int) < (dn : Int) := by omega
    have d4 : (0 : Int) < (dn : Int) + 1 := by omega
    have d5 : ¬ (dn : Int) + 1 < 0 := by omega
    have d6 : (dn : Int) + 1 ≤ 1000 := by omega
    have d7 : (0 : Int) ≤ (dn : Int) + 1 := by omega
    have d8 : ((dn : Int) + 1).toNat = dn + 1 := by omega
    have hw : IntKind.i64.wrap ((dn : Int) + 1) = (dn : Int) + 1 := IntWalk.i64_in _ (by omega)
    have hk := HIN.out (dn + 1) (by omega)
    have h9 := HEQ.out (dn + 1) (by omega)
    go_wp2_with fail
    refine (l1Sum_pref _ _ _ (M.take (dn + 1)) _ hk (fun j => HPB.out (dn + 1) j)).mono ?_
    rintro e w5 ⟨rfl, rfl⟩
    rw [h9]
    go_wp2_with fail
    go_ret2
    exact pairI_mk HF.out hb
set_option maxRecDepth 100000 in
set_option maxHeartbeats 4000000 in
theorem implTakenUpTo_any (r : PtR) (p : Pt) (A B : Option Addr) (n c m d : Nat) (ds : List Dm) (l : List Pl) (item : ByteArray) (day : Int) (w : World) (hp : PlantIn w r p) (hok : okPt p) (hds : DemandsIn w A n ds) (hokd : ∀ x ∈ ds, okDm x) (hnc : n ≤ c) (hl : PlannedsIn w B m l) (hokl : ∀ x ∈ l, okPl x) (hday : -9223372036854775808 ≤ day ∧ day ≤ 9223372036854775807) :
    Calls Tryz.prog 28 #[.agg #[.slice r.i.a r.i.n r.i.c, .slice r.l.a r.l.n r.l.c, .slice r.w.a r.w.n r.w.c, .slice r.e.a r.e.n r.e.c, .slice r.p.a r.p.n r.p.c, .slice r.s.a r.s.n r.s.c, .slice r.q.a r.q.n r.q.c], .slice A n c, .slice B m d, .string item, .int .i64 day] w (PairI w (takenUpTo p ds l item day)) := by
  obtain ⟨⟨a0, n0, c0⟩, ⟨a1, n1, c1⟩, ⟨a2, n2, c2⟩, ⟨a3, n3, c3⟩, ⟨a4, n4, c4⟩, ⟨a5, n5, c5⟩, ⟨a6, n6, c6⟩⟩ := r
  have HP := Lib.hid hp
  have HQ0 := Lib.hid hp.it
  dsimp only at HQ0 ⊢
  clear hp
  have HO := Lib.hid hok
  have HOD := Lib.hid hokd
  have HOL := Lib.hid hokl
  clear hok hokd hokl
  have hb := below_alloc w (.cells #[.slice a0 n0 c0, .slice a1 n1 c1, .slice a2 n2 c2, .slice a3 n3 c3, .slice a4 n4 c4, .slice a5 n5 c5, .slice a6 n6 c6] 48)
  have B0 : BoxOf (w.alloc (.cells #[.slice a0 n0 c0, .slice a1 n1 c1, .slice a2 n2 c2, .slice a3 n3 c3, .slice a4 n4 c4, .slice a5 n5 c5, .slice a6 n6 c6] 48)) w.heap.size [.slice a0 n0 c0, .slice a1 n1 c1, .slice a2 n2 c2, .slice a3 n3 c3, .slice a4 n4 c4, .slice a5 n5 c5, .slice a6 n6 c6] := boxOf_alloc w #[.slice a0 n0 c0, .slice a1 n1 c1, .slice a2 n2 c2, .slice a3 n3 c3, .slice a4 n4 c4, .slice a5 n5 c5, .slice a6 n6 c6] 48
  go_enter Tryz.func28, Tryz.ntmps28
  go_wp2_with fail
  generalize (w.alloc (.cells #[.slice a0 n0 c0, .slice a1 n1 c1, .slice a2 n2 c2, .slice a3 n3 c3, .slice a4 n4 c4, .slice a5 n5 c5, .slice a6 n6 c6] 48)) = V at *
  refine (implArePlanned_any ⟨⟨a0, n0, c0⟩, ⟨a1, n1, c1⟩, ⟨a2, n2, c2⟩, ⟨a3, n3, c3⟩, ⟨a4, n4, c4⟩, ⟨a5, n5, c5⟩, ⟨a6, n6, c6⟩⟩ p _ _ _ l _ (HP.out.keep hb) HO.out (hl.keep hb) HOL.out).mono ?_
  rintro e w1 ⟨rfl, hs⟩
  replace hb := below_on hb hs
  replace B0 := B0.keep hs
  clear hs
  obtain ⟨b0, b1, b2, b3, b4, b5, b6, bl⟩ := B0.seven
  cases g1 : arePlanned p l
  · go_wp2_with fail
    go_ret2
    exact pairI_mk (takenUpTo_no _ (by unfold takes; rw [g1]; rfl)) hb
  go_wp2_with fail
  refine (implAreDemands_any _ _ _ ds _ (hds.keep hb) HOD.out hnc).mono ?_
  rintro e w2 ⟨rfl, hs⟩
  clear b0 b1 b2 b3 b4 b5 b6 bl
  replace hb := below_on hb hs
  replace B0 := B0.keep hs
  clear hs
  obtain ⟨b0, b1, b2, b3, b4, b5, b6, bl⟩ := B0.seven
  cases g2 : areDemands ds
  · go_wp2_with fail
    go_ret2
    exact pairI_mk (takenUpTo_no _ (by unfold takes; rw [g1, g2]; rfl)) hb
  go_wp2_with fail
  refine (implFindItem_any _ _ _ p.it _ _ (HQ0.out.keep hb)).mono ?_
  rintro e w3 ⟨rfl, hs⟩
  clear b0 b1 b2 b3 b4 b5 b6 bl
  replace hb := below_on hb hs
  replace B0 := B0.keep hs
  clear hs
  obtain ⟨b0, b1, b2, b3, b4, b5, b6, bl⟩ := B0.seven
  by_cases g3 : 0 ≤ findIt p.it item
  case neg =>
    have g4 : findIt p.it item < 0 := by omega
    go_wp2_with fail
    go_ret2
    exact pairI_mk (takenUpTo_no _ (by unfold takes; rw [g1, g2, decide_eq_false (by omega)]; rfl)) hb
  have g4 : ¬ findIt p.it item < 0 := by omega
  go_wp2_with fail
  clear b0 b1 b2 b3 b4 b5 b6 bl
  have HDY := Lib.hid (takenOn_days (item := item) g1 g2)
  refine (implTaken_any ⟨⟨a0, n0, c0⟩, ⟨a1, n1, c1⟩, ⟨a2, n2, c2⟩, ⟨a3, n3, c3⟩, ⟨a4, n4, c4⟩, ⟨a5, n5, c5⟩, ⟨a6, n6, c6⟩⟩ p _ _ _ _ _ _ ds l item _ (HP.out.keep hb) HO.out (hds.keep hb) (hl.keep hb) g1 g2).mono ?_
  rintro e w4 ⟨A4, n4', c4', rfl, hM, hs⟩
  replace hb := below_on hb hs
  replace B0 := B0.keep hs
  cases g5 : (takenOn p ds l item).2
  · go_wp2_with fail
    go_ret2
    exact pairI_mk (takenUpTo_no _ (takes_eq g1 g2 g3 g5)) hb
  have HF : Hid (takenUpTo p ds l item day = (prefS (takenOn p ds l item).1 (cutD day), true)) := takenUpTo_yes _ (takes_eq g1 g2 g3 g5)
  obtain ⟨g, rfl, rfl, rfl, hA⟩ := hM g5
  generalize (takenOn p ds l item).1 = M at *
  have hml := HDY.out.len
  obtain ⟨D, hD⟩ : ∃ D : Int, (if (999 : Int) < day then 999 else day) = D := ⟨_, rfl⟩
  have hD1 : (D ≤ 999 ∧ cutD day = (max 0 (D + 1)).toNat) := by
    unfold cutD
    split at hD <;> omega
  have hc1000 : cutD day ≤ 1000 := by omega
  have HPB : Hid (∀ j, 0 ≤ prefS M j ∧ prefS M j ≤ 60000000000000000) := fun j => by
    have h1 := pref_le M HDY.out.pos j
    have := HDY.out.sum
    omega
  have HDD := Lib.hid hD
  have HD1 := Lib.hid hD1
  have HC := Lib.hid hc1000
  clear hD1 hc1000 hD
  clear g1 g2 g3 g4 g5 hM hs hday
  go_wp2_with fail
  go_loop [14, 15] (fun s i => ∃ k : Nat, k ≤ cutD day ∧ i = .int .i64 k ∧ s = .int .i64 (prefS M k)) (fun _ i => cutD day - (intOf i).toNat)
  case atStart => exact ⟨0, by omega, rfl, by simp [prefS]⟩
  case round =>
    obtain ⟨k, hk, rfl, rfl⟩ := hrel
    by_cases hlt : (k : Int) ≤ D
    · have hkl : k < M.length := by have := HD1.out; omega
      have hk1000 : k < 1000 := by omega
      have hkc : k + 1 ≤ cutD day := by have := HD1.out; omega
      have HS := Lib.hid (pref_succ M k hkl)
      have h2 := HPB.out (k + 1)
      rw [HS.out] at h2
      have cK := hA.cellN hk1000
      have k2 : (k : Int) < 1000 := by omega
      have h3 := HPB.out k
      generalize prefS M k = s at *
      generalize M.getD k 0 = x at *
      have hw : IntKind.i64.wrap (s + x) = s + x := IntWalk.i64_in _ (by omega)
      have hD := HDD.out
      go_wp2_with fail
      go_round
      case rel => exact ⟨k + 1, hkc, by go_num, by rw [HS.out]⟩
      case measure => simp [intOf]; omega
    · have hk2 : k = cutD day := by have := HD1.out; omega
      have hlt2 : D < (k : Int) := by omega
      have hD := HDD.out
      subst hk2
      go_wp2_with fail
      go_ret2
      exact pairI_mk HF.out hb
theorem specTakenUpTo_row (r : PtR) (p : Pt) (A : Option Addr) (n c : Nat) (ds : List Dm) (B : Option Addr) (m d : Nat) (l : List Pl) (item : ByteArray) (day : Int) (w : World) (hp : PlantIn w r p) (hok : okPt p) (hds : DemandsIn w A n ds) (hokd : ∀ x ∈ ds, okDm x) (hl : PlannedsIn w B m l) (hokl : ∀ x ∈ l, okPl x) (_hs : item.size ≤ 9223372036854775807) (wf : (Lit.int .i64 day).wf = true) (hnc : n ≤ c) :
    Calls Tryz.prog 27 #[.agg #[.slice r.i.a r.i.n r.i.c, .slice r.l.a r.l.n r.l.c, .slice r.w.a r.w.n r.w.c, .slice r.e.a r.e.n r.e.c, .slice r.p.a r.p.n r.p.c, .slice r.s.a r.s.n r.s.c, .slice r.q.a r.q.n r.q.c], .slice A n c, .slice B m d, .string item, .int .i64 day] w (PairI w (takenUpTo p ds l item day)) := specTakenUpTo_any r p A B n c m d ds l item day w hp hok hds hokd hnc hl hokl (day_wf wf)
theorem implTakenUpTo_row (r : PtR) (p : Pt) (A : Option Addr) (n c : Nat) (ds : List Dm) (B : Option Addr) (m d : Nat) (l : List Pl) (item : ByteArray) (day : Int) (w : World) (hp : PlantIn w r p) (hok : okPt p) (hds : DemandsIn w A n ds) (hokd : ∀ x ∈ ds, okDm x) (hl : PlannedsIn w B m l) (hokl : ∀ x ∈ l, okPl x) (_hs : item.size ≤ 9223372036854775807) (wf : (Lit.int .i64 day).wf = true) (hnc : n ≤ c) :
    Calls Tryz.prog 28 #[.agg #[.slice r.i.a r.i.n r.i.c, .slice r.l.a r.l.n r.l.c, .slice r.w.a r.w.n r.w.c, .slice r.e.a r.e.n r.e.c, .slice r.p.a r.p.n r.p.c, .slice r.s.a r.s.n r.s.c, .slice r.q.a r.q.n r.q.c], .slice A n c, .slice B m d, .string item, .int .i64 day] w (PairI w (takenUpTo p ds l item day)) := implTakenUpTo_any r p A B n c m d ds l item day w hp hok hds hokd hnc hl hokl (day_wf wf)
end Go.Proofs.YtlnkofnfgemfdaaGreat
