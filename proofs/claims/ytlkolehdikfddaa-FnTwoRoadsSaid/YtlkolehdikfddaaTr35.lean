/- FnTwoRoads: for every input the law returns true; its argument reads behind the call as before. No condition. -/
import Derived.Test.YtlkolehdikfddaaTr18
import Derived.Test.YtlkolehdikfddaaTr31
import Derived.Test.YtlkolehdikfddaaTr34
import Derived.Test.YtlkolehdikfddaaTr19
import Derived.Test.YtlkolehdikfddaaTr29
/- The walk of the law FnTwoRoads: for every input it returns true, and no memory that was there is written. -/
namespace Go.Proofs.Ytlkolehdikfddaa
open Go.RowKit
theorem PartsEnd.one {P : List Nd → Prop} {w w' : World} {e : Ending} (h : PartsEnd P w e w') : ∃ (v : Value) (b : Bool), e = .returned (.tuple #[v, .bool b]) ∧ (b = true → ∃ l : List Nd, RowVal ndF 70 w' w.heap.size v l ∧ l.length ≤ 12 ∧ (∀ x ∈ l, 0 ≤ x.2 ∧ x.2 ≤ 1000000000) ∧ P l) ∧ Below w.heap.size w w' := by
  obtain ⟨hb, ⟨A, n, c, he⟩ | ⟨l, v, h1, h2, h3, h4, h5⟩⟩ := h
  · exact ⟨_, false, he, (fun h => by cases h), hb⟩
  · exact ⟨v, true, h1, fun _ => ⟨l, h2, h3, h4, h5⟩, hb⟩
set_option maxRecDepth 100000 in
set_option maxHeartbeats 2000000 in
theorem lawIn_any (A : Option Addr) (n c : Nat) (l : List Nd) (s : ByteArray) (w : World) (hl : NeedsIn w A n l) (hb : ∀ x ∈ l, 0 ≤ x.2 ∧ x.2 ≤ 1000000000) (h12 : l.length ≤ 12) :
    Calls Try.prog 9 #[.slice A n c, .string s] w fun e w' => e = .returned (.int .i64 (inSum l s)) ∧ w = w' := by
  obtain rfl := hl.1
  have HB := Lib.hid hb
  clear hb
  have HT : Hid (inSum l s = inSum (l.take l.length) s) := by show _ = _; rw [List.take_length]
  rw [HT.out]
  have HZ : Hid (inSum (l.take 0) s = 0) := rfl
  go_enter Try.func9, Try.ntmps9
  go_wp2_with fail
  go_loopw [5, 6] (fun v t wr => ∃ k : Nat, k ≤ l.length ∧ t = .int .i64 k ∧ v = .int .i64 (inSum (l.take k) s) ∧ w = wr) (fun _ t _ => l.length - (intOf t).toNat)
  case atStart => exact ⟨0, by omega, rfl, by rw [HZ.out], rfl⟩
  case round =>
    clear HZ HT
    obtain ⟨k, hk, rfl, rfl, rfl⟩ := hrel
    by_cases hlt : k < l.length
    case neg =>
      obtain rfl : k = l.length := by omega
      go_wp2_with fail
      go_ret
      exact ⟨rfl, rfl⟩
    have ki : (k : Int) < (l.length : Int) := by omega
    obtain ⟨b, o, rfl, hbl, c0, c1⟩ := need_at hl hlt
    have HS := Lib.hid (inSum_take l s k hlt)
    have hbd := inSum_bd l s HB.out k
    have hx := HB.out _ (List.getElem_mem hlt)
    generalize inSum (l.take k) s = t0 at *
    cases heq : (l[k].1.toList == s.toList)
    case false =>
      have HN : Hid (inSum (l.take (k + 1)) s = t0) := by show _ = _; rw [HS.out, heq]; simp
      go_wp2_with fail
      go_roundw
      case rel => exact ⟨k + 1, by omega, by go_num, by rw [HN.out], by trivial⟩
      case measure => simp [intOf]; omega
    have HY : Hid (inSum (l.take (k + 1)) s = t0 + l[k].2) := by show _ = _; rw [HS.out, heq]; simp
    have hw : IntKind.i64.wrap (t0 + l[k].2) = t0 + l[k].2 := IntWalk.i64_in _ (by omega)
    go_wp2_with fail
    go_roundw
    case rel => exact ⟨k + 1, by omega, by go_num, by rw [HY.out], by trivial⟩
    case measure => simp [intOf]; omega
set_option maxRecDepth 100000 in
set_option maxHeartbeats 8000000 in
theorem lawTwoRoads {w : World} (A : Option Addr) (n c : Nat) (l : List Int) (hl : n ≤ 1048576 → RowsIn byteF w A n l ∧ ∀ x ∈ l, okByte x) (hn : n ≤ 9223372036854775807) :
    Calls Try.prog 3 #[.slice A n c] w fun e w' => e = .returned (.bool true) ∧ Below w.heap.size w w' := by
  by_cases big : 1048576 < n
  · go_enter Try.func3, Try.ntmps3
    go_wp2_with fail
    refine (big_yes _ _ _ _ big hn).mono ?_
    rintro e w1 ⟨rfl, rfl⟩
    go_wp2_with fail
    go_ret
    exact ⟨rfl, Below.refl _ _⟩
  have hby := Lib.hid (hl (by omega))
  have hn9 : n ≤ 1048576 := by omega
  clear hl
  go_enter Try.func3, Try.ntmps3
  go_wp2_with fail
  refine (big_no _ _ _ _ big).mono ?_
  rintro e w1 ⟨rfl, rfl⟩
  go_wp2_with fail
  refine (DrawTakenUpTo_any _ _ _ l _ hby.out.1 hby.out.2 hn9).mono ?_
  clear hby big hn9
  rintro e w1 ⟨r, p, ds, A1, c1', l, B1, d1, s, day, rfl, hok, hokd, hcap, hokl, hll, hsz, hday, hp, hds, hl, hbD⟩
  obtain ⟨⟨a0, n0, c0⟩, ⟨a1, n1, c1⟩, ⟨a2, n2, c2⟩, ⟨a3, n3, c3⟩, ⟨a4, n4, c4⟩, ⟨a5, n5, c5⟩, ⟨a6, n6, c6⟩⟩ := r
  have HO := Lib.hid hok
  have HOD := Lib.hid hokd
  have HOL := Lib.hid hokl
  clear hok hokd hokl
  have hn0 : n0 = p.it.length := hp.it.1
  have hn1 : n1 = p.ls.length := hp.ls.num
  subst hn0
  subst hn1
  dsimp only [PtR.v]
  have hs := below_alloc w1 (.cells #[.slice a0 p.it.length c0, .slice a1 p.ls.length c1, .slice a2 n2 c2, .slice a3 n3 c3, .slice a4 n4 c4, .slice a5 n5 c5, .slice a6 n6 c6] 34)
  have B0 : BoxOf (w1.alloc (.cells #[.slice a0 p.it.length c0, .slice a1 p.ls.length c1, .slice a2 n2 c2, .slice a3 n3 c3, .slice a4 n4 c4, .slice a5 n5 c5, .slice a6 n6 c6] 34)) w1.heap.size [.slice a0 p.it.length c0, .slice a1 p.ls.length c1, .slice a2 n2 c2, .slice a3 n3 c3, .slice a4 n4 c4, .slice a5 n5 c5, .slice a6 n6 c6] := boxOf_alloc w1 #[.slice a0 p.it.length c0, .slice a1 p.ls.length c1, .slice a2 n2 c2, .slice a3 n3 c3, .slice a4 n4 c4, .slice a5 n5 c5, .slice a6 n6 c6] 34
  replace hp := hp.keep hs
  replace hds := RowsIn.keep hds hs
  replace hl := RowsIn.keep hl hs
  replace hbD := below_on hbD hs
  obtain ⟨b0, b1, b2, b3, b4, b5, b6, bl⟩ := B0.seven
  go_wp2_with fail
  generalize (w1.alloc (.cells #[.slice a0 p.it.length c0, .slice a1 p.ls.length c1, .slice a2 n2 c2, .slice a3 n3 c3, .slice a4 n4 c4, .slice a5 n5 c5, .slice a6 n6 c6] 34)) = w2 at *
  generalize w1.heap.size = Pb at *
  clear hs
  refine (implTakenUpTo_any (⟨⟨a0, p.it.length, c0⟩, ⟨a1, p.ls.length, c1⟩, ⟨a2, n2, c2⟩, ⟨a3, n3, c3⟩, ⟨a4, n4, c4⟩, ⟨a5, n5, c5⟩, ⟨a6, n6, c6⟩⟩ : PtR) p A1 B1 ds.length c1' l.length d1 ds l s day _ hp HO.out hds HOD.out hcap hl HOL.out hday).mono ?_
  rintro e w3 ⟨rfl, hs⟩
  replace hp := hp.keep hs
  replace hds := RowsIn.keep hds hs
  replace hl := RowsIn.keep hl hs
  replace B0 := B0.keep hs
  replace hbD := below_on hbD hs
  clear hs b0 b1 b2 b3 b4 b5 b6 bl
  obtain ⟨b0, b1, b2, b3, b4, b5, b6, bl⟩ := B0.seven
  cases hTK : takes p ds l s
  · have HNO := Lib.hid (takenUpTo_no day hTK)
    rw [HNO.out]
    clear hTK
    dsimp only
    go_wp2_with fail
    refine (specTakenUpTo_any (⟨⟨a0, p.it.length, c0⟩, ⟨a1, p.ls.length, c1⟩, ⟨a2, n2, c2⟩, ⟨a3, n3, c3⟩, ⟨a4, n4, c4⟩, ⟨a5, n5, c5⟩, ⟨a6, n6, c6⟩⟩ : PtR) p A1 B1 ds.length c1' l.length d1 ds l s day _ hp HO.out hds HOD.out hcap hl HOL.out hday).mono ?_
    rintro e w4 ⟨rfl, hs⟩
    rw [HNO.out]
    replace hbD := below_on hbD hs
    dsimp only
    go_wp2_with fail
    go_ret
    exact ⟨rfl, hbD⟩
  obtain ⟨t1, t2, t3, t4⟩ := takes_parts hTK
  obtain ⟨tn, htn⟩ : ∃ tn, prefS (takenOn p ds l s).1 (cutD day) = tn := ⟨_, rfl⟩
  have HTU : Hid (takenUpTo p ds l s day = (tn, true)) := by show _ = _; rw [takenUpTo_yes day hTK, htn]
  have HTN : Hid (tn = evSum (evsP p s l) day + evSum (evsD p s ds) day) := by show _ = _; rw [← htn]; exact roads_meet s day t1 t2
  have HIP := Lib.hid (arePlanned_parts t1).1
  have HPP := Lib.hid (arePlanned_parts t1).2.2
  have h500 := (arePlanned_parts t1).2.1
  have h16 := areDemands_len t2
  have HDM : Hid (∀ k (hk : k < ds.length), 1 ≤ ds[k].2.2.1 ∧ ds[k].2.2.1 ≤ 100000 ∧ 0 ≤ ds[k].2.2.2.1 ∧ ds[k].2.2.2.1 ≤ 999) := fun k hk => areDemands_mem t2 hk
  have HFP : Hid (∀ k (hk : k < l.length), unitAt p s l[k].1 l[k].2.2.1 ≤ 1000000000) := fun k hk => few_P t4 k hk
  have HFD : Hid (∀ k (hk : k < ds.length), dmN p s ds[k] ≤ 1000000000) := fun k hk => few_D t4 k hk
  have HT3 := Lib.hid t3
  obtain ⟨qn, hqn⟩ : ∃ qn : Nat, findIt p.it s = (qn : Int) := ⟨(findIt p.it s).toNat, by omega⟩
  have q1 : qn < p.it.length := by have := findIt_lt t3; omega
  have HPH : Hid (phan p.it s = (p.it[qn].2.2.1 == 2)) := by show _ = _; unfold phan; rw [hqn, Int.toNat_natCast, List.getD_eq_getElem?_getD, List.getElem?_eq_getElem q1]; rfl
  have HQN := Lib.hid hqn
  clear hTK t1 t2 t3 t4 htn hqn
  rw [HTU.out]
  dsimp only
  go_wp2_with fail
  refine (specTakenUpTo_any (⟨⟨a0, p.it.length, c0⟩, ⟨a1, p.ls.length, c1⟩, ⟨a2, n2, c2⟩, ⟨a3, n3, c3⟩, ⟨a4, n4, c4⟩, ⟨a5, n5, c5⟩, ⟨a6, n6, c6⟩⟩ : PtR) p A1 B1 ds.length c1' l.length d1 ds l s day _ hp HO.out hds HOD.out hcap hl HOL.out hday).mono ?_
  rintro e w4 ⟨rfl, hs⟩
  rw [HTU.out]
  dsimp only
  replace hp := hp.keep hs
  replace hds := RowsIn.keep hds hs
  replace hl := RowsIn.keep hl hs
  replace B0 := B0.keep hs
  replace hbD := below_on hbD hs
  clear hs b0 b1 b2 b3 b4 b5 b6 bl HTU
  have hpIt := Lib.hid hp.it
  have hpLs := Lib.hid hp.ls
  have hpCh := Lib.hid hp.ch
  have HDS := Lib.hid hds
  have HLL := Lib.hid hl
  clear hp hds hl
  have HR0 : Hid (phan p.it s = false → 0 = evSum ((evsP p s l).take 0) day) := fun _ => rfl
  go_wp2_with fail
  go_loopw [12, 13] (fun v t wr => ∃ (k : Nat) (want : Int), k ≤ l.length ∧ t = .int .i64 k ∧ v = .int .i64 want ∧ (0 ≤ want ∧ want ≤ 100000000000 * (k : Int)) ∧ Hid (phan p.it s = false → want = evSum ((evsP p s l).take k) day) ∧ BoxOf wr Pb [.slice a0 p.it.length c0, .slice a1 p.ls.length c1, .slice a2 n2 c2, .slice a3 n3 c3, .slice a4 n4 c4, .slice a5 n5 c5, .slice a6 n6 c6] ∧ Below w4.heap.size w4 wr) (fun _ t _ => l.length - (intOf t).toNat)
  case atStart => exact ⟨0, 0, by omega, rfl, rfl, by omega, HR0, B0, Below.refl _ _⟩
  case round =>
    clear B0 HR0
    obtain ⟨k, want, hk, rfl, rfl, ⟨hw0, hw9⟩, HW, B0, hb⟩ := hrel
    obtain ⟨b0, b1, b2, b3, b4, b5, b6, bl⟩ := B0.seven
    by_cases hlt : k < l.length
    case pos =>
      have ki : (k : Int) < (l.length : Int) := by omega
      obtain ⟨b, o, hbe, hbl, hc0, hc1, hc2, hc3, hc4⟩ := planned_at (RowsIn.keep HLL.out hb) hlt
      subst hbe
      have HST := Lib.hid (roadP_step p s day l k hlt)
      have hfe := HFP.out k hlt
      obtain ⟨z1, _⟩ := HPP.out k hlt
      have HFE : Hid (unitAt p s l[k].1 l[k].2.2.1 ≤ 1000000000) := hfe
      have HZ1 := Lib.hid z1
      clear hfe z1
      generalize l[k].1 = code at *
      generalize l[k].2.1 = qt at *
      generalize l[k].2.2.1 = rl at *
      clear hc3 hc4 b2 b3 b5 b6
      go_wp2_with fail
      refine wp_region_held_drew (S := fun w' => w'.cell? ⟨Pb, 0, none⟩ = some (.slice a0 p.it.length c0) ∧ w'.cell? ⟨Pb, 1, none⟩ = some (.slice a1 p.ls.length c1) ∧ w'.cell? ⟨Pb, 4, none⟩ = some (.slice a4 n4 c4) ∧ w'.cell? ⟨b, o + k * 5, none⟩ = some (.string code) ∧ w'.cell? ⟨b, o + k * 5 + 1, none⟩ = some (.int .i64 qt) ∧ w'.cell? ⟨b, o + k * 5 + 2, none⟩ = some (.int .i64 rl) ∧ Pb < w'.heap.size ∧ b < w'.heap.size ∧ Below wr.heap.size wr w') (by kernel_rfl) (⟨b0, b1, b4, hc0, hc1, hc2, bl, hbl, (Below.refl _ wr).drew⟩) (fun hHeld => ?_)
      refine held1 0 (some 63) hHeld ?_
      refine held1 1 (some 64) hHeld ?_
      refine held1 2 (some 65) hHeld ?_
      refine held1 3 (some 66) hHeld ?_
      refine held1 4 (some 67) hHeld ?_
      refine held1 5 (some 68) hHeld ?_
      refine held1 6 (some 69) hHeld ?_
      refine held1 7 (some 70) hHeld ?_
      refine held1 8 (some 71) hHeld ?_
      refine held1 9 (some 72) hHeld ?_
      refine held1 10 (some 73) hHeld ?_
      refine held1 11 (some 74) hHeld ?_
      refine held1 12 (some 75) hHeld ?_
      refine held1 13 (some 76) hHeld ?_
      refine held1 14 (some 77) hHeld ?_
      refine held1 15 (some 78) hHeld ?_
      refine held1 16 (some 79) hHeld ?_
      refine held1 17 (some 80) hHeld ?_
      refine held1 18 (some 81) hHeld ?_
      refine held1 19 (some 82) hHeld ?_
      refine held1 20 (some 83) hHeld ?_
      refine held_do 21 fun K hK => ?_
      go_simp
      have hbP := below_on hb hHeld.2.2.2.2.2.2.2.2
      go_at_call 8
      refine (implPartsOf_any a0 a1 a4 _ c0 _ c1 n4 c4 p code s qt rl _ (hpIt.out.keep hbP) (hpLs.out.keep hbP) (hpCh.out.keep hbP) HO.out HIP.out HZ1.out HT3.out).mono ?_
      intro e w6 hpe
      obtain ⟨v6, f6, rfl, hpt, hb3⟩ := hpe.one
      go_simp
      refine hK.out _ _ (⟨(hb3.cell (p := ⟨Pb, 0, none⟩) hHeld.2.2.2.2.2.2.1).trans hHeld.1, (hb3.cell (p := ⟨Pb, 1, none⟩) hHeld.2.2.2.2.2.2.1).trans hHeld.2.1, (hb3.cell (p := ⟨Pb, 4, none⟩) hHeld.2.2.2.2.2.2.1).trans hHeld.2.2.1, (hb3.cell (p := ⟨b, o + k * 5, none⟩) hHeld.2.2.2.2.2.2.2.1).trans hHeld.2.2.2.1, (hb3.cell (p := ⟨b, o + k * 5 + 1, none⟩) hHeld.2.2.2.2.2.2.2.1).trans hHeld.2.2.2.2.1, (hb3.cell (p := ⟨b, o + k * 5 + 2, none⟩) hHeld.2.2.2.2.2.2.2.1).trans hHeld.2.2.2.2.2.1, Nat.lt_of_lt_of_le hHeld.2.2.2.2.2.2.1 hb3.size, Nat.lt_of_lt_of_le hHeld.2.2.2.2.2.2.2.1 hb3.size, below_on hHeld.2.2.2.2.2.2.2.2 hb3⟩) (fun hHeld => ?_)
      clear hK K
      refine held1 22 (some 62) hHeld ?_
      refine held1 23 (some 85) hHeld ?_
      refine held1 24 (some 86) hHeld ?_
      refine held1 25 (some 14) hHeld ?_
      refine held1 26 (some 15) hHeld ?_
      refine wpAnyH_done (by kernel_rfl) ?_ _
      have hs := hHeld.2.2.2.2.2.2.2.2
      have hbl' := hHeld.2.2.2.2.2.2.2.1
      have hc2' := hHeld.2.2.2.2.2.1
      have HPT := Lib.hid hpt
      clear hHeld hpt hpe hb3 b0 b1 b4 bl hbl hc0 hc1 hc2
      replace hb := below_on hb hs
      replace B0 := B0.keep hs
      clear hs hbP
      cases f6
      case false =>
        go_wp2_with fail
        go_ret
        exact ⟨rfl, below_on hbD hb⟩
      obtain ⟨pl, hrow, hpl12, hplb, hpls⟩ := HPT.out rfl
      obtain ⟨A6, c6', rfl, ho6⟩ := hrow.form
      have hin := ho6.rows (by omega)
      have HPS := Lib.hid hpls
      have HPB := Lib.hid hplb
      have hsb := inSum_bd pl s hplb pl.length
      rw [List.take_length] at hsb
      clear hpls hplb HPT hrow ho6
      by_cases hrd : rl ≤ day
      case neg =>
        have HNO : Hid (evSum ((evsP p s l).take (k + 1)) day = evSum ((evsP p s l).take k) day) := by show _ = _; rw [HST.out, if_neg hrd, Int.add_zero]
        have HW2 : Hid (phan p.it s = false → want = evSum ((evsP p s l).take (k + 1)) day) := by show _ → _; rw [HNO.out]; exact HW.out
        clear HNO HST HW HPS HPB
        go_wp2_with fail
        go_roundw
        case rel => exact ⟨k + 1, want, by omega, by go_num, rfl, by omega, HW2, B0, hb⟩
        case measure => simp [intOf]; omega
      have HYS : Hid (evSum ((evsP p s l).take (k + 1)) day = evSum ((evsP p s l).take k) day + unitAt p s code rl * qt) := by show _ = _; rw [HST.out, if_pos hrd]
      have HW2 : Hid (phan p.it s = false → want + inSum pl s = evSum ((evsP p s l).take (k + 1)) day) := fun hph => by rw [HYS.out, ← HW.out hph, HPS.out hph HFE.out, Int.mul_comm]
      have hw : IntKind.i64.wrap (want + inSum pl s) = want + inSum pl s := IntWalk.i64_in _ (by omega)
      clear HYS HST HW HPS
      go_wp2_with fail
      refine (lawIn_any A6 pl.length c6' pl s _ hin HPB.out hpl12).mono ?_
      rintro e w8 ⟨rfl, rfl⟩
      generalize inSum pl s = sm at *
      clear hin HPB
      go_wp2_with fail
      go_roundw
      case rel => exact ⟨k + 1, want + sm, by omega, by go_num, rfl, by omega, HW2, B0, hb⟩
      case measure => simp [intOf]; omega
    obtain rfl : k = l.length := by omega
    have hbW := below_on hbD hb
    have HW1 : Hid (phan p.it s = false → want = evSum (evsP p s l) day) := fun hph => by rw [HW.out hph, roadP_all]
    replace hpIt := Lib.hid (hpIt.out.keep hb)
    replace hpLs := Lib.hid (hpLs.out.keep hb)
    replace hpCh := Lib.hid (hpCh.out.keep hb)
    replace HDS := Lib.hid (RowsIn.keep HDS.out hb)
    clear HW HLL hb hbD HFP HPP
    have hwt : want ≤ 50000000000000 := by omega
    clear hw9
    obtain ⟨bi, oi, hae, hbi, t0, t1, t2, t3, t4, t5, t6, t7⟩ := item_at hpIt.out q1
    subst hae
    have HKD : Hid ((p.it[qn].2.2.1 == 2) = phan p.it s) := HPH.out.symm
    have HFI := Lib.hid (fun (w' : World) (hb : Below wr.heap.size wr w') => specFindItem_any (some ⟨bi, oi, none⟩) p.it.length c0 p.it s w' (hpIt.out.keep hb))
    clear t0 t1 t3 t4 t5 t6 t7 HPH
    generalize hkq : p.it[qn].2.2.1 = kq at *
    have qi : (qn : Int) < (p.it.length : Int) := by omega
    have qi0 : (0 : Int) ≤ (qn : Int) := by omega
    clear b1 b2 b3 b4 b5 b6 hkq
    go_wp2_with fail
    refine wp_region_held_drew (S := fun w' => w'.cell? ⟨Pb, 0, none⟩ = some (.slice (some ⟨bi, oi, none⟩) p.it.length c0) ∧ w'.cell? ⟨bi, oi + qn * 8 + 2, none⟩ = some (.int .i64 kq) ∧ Below wr.heap.size wr w') (by kernel_rfl) (⟨b0, t2, (Below.refl _ wr).drew⟩) (fun hHeld => ?_)
    refine held1 0 (some 101) hHeld ?_
    refine held1 1 (some 102) hHeld ?_
    refine held1 2 (some 103) hHeld ?_
    refine held1 3 (some 104) hHeld ?_
    refine held1 4 (some 105) hHeld ?_
    refine held_do 5 fun K hK => ?_
    go_simp
    go_at_call 10
    refine (HFI.out _ hHeld.2.2).mono ?_
    rintro e w' ⟨rfl, rfl⟩
    rw [HQN.out]
    go_simp
    refine hK.out _ _ (hHeld) (fun hHeld => ?_)
    clear hK K
    refine held1 6 (some 107) hHeld ?_
    refine held1 7 (some 108) hHeld ?_
    refine held1 8 (some 109) hHeld ?_
    refine held1 9 (some 110) hHeld ?_
    refine held1 10 (some 16) hHeld ?_
    refine wpAnyH_done (by kernel_rfl) ?_ _
    have hs := hHeld.2.2
    clear hHeld HFI b0 bl t2 hbi qi qi0 q1
    rw [HKD.out]
    go_wp2_with fail
    generalize hww : wr.drew = wq at *
    have hsq : Below wr.heap.size wr wq := hww ▸ hs
    clear hs hww
    replace hpIt := Lib.hid (hpIt.out.keep hsq)
    replace hpLs := Lib.hid (hpLs.out.keep hsq)
    replace hpCh := Lib.hid (hpCh.out.keep hsq)
    replace HDS := Lib.hid (RowsIn.keep HDS.out hsq)
    replace B0 := B0.keep hsq
    replace hbW := below_on hbW hsq
    clear hsq HKD
    generalize hph : phan p.it s = ph at *
    have HPH := Lib.hid hph
    clear hph
    have HR1 : Hid (ph = false → want = evSum (evsP p s l) day + evSum ((evsD p s ds).take 0) day) := fun hph => by rw [HW1.out hph, roadD_zero, Int.add_zero]
    clear HW1
    generalize evSum (evsP p s l) day = eP at *
    go_loopw [12, 17] (fun v t wr => ∃ (k : Nat) (want : Int), k ≤ ds.length ∧ t = .int .i64 k ∧ v = .int .i64 want ∧ (0 ≤ want ∧ want ≤ 50000000000000 + 100000000000 * (k : Int)) ∧ Hid (ph = false → want = eP + evSum ((evsD p s ds).take k) day) ∧ BoxOf wr Pb [.slice (some ⟨bi, oi, none⟩) p.it.length c0, .slice a1 p.ls.length c1, .slice a2 n2 c2, .slice a3 n3 c3, .slice a4 n4 c4, .slice a5 n5 c5, .slice a6 n6 c6] ∧ Below wq.heap.size wq wr) (fun _ t _ => ds.length - (intOf t).toNat)
    case atStart => exact ⟨0, want, by omega, rfl, rfl, by omega, HR1, B0, Below.refl _ _⟩
    case round =>
      clear B0 HR1 hwt hw0
      obtain ⟨k, want, hk, rfl, rfl, ⟨hw0, hw9⟩, HW, B0, hb⟩ := hrel
      by_cases hlt : k < ds.length
      case neg =>
        obtain rfl : k = ds.length := by omega
        cases ph
        case true =>
          go_wp2_with fail
          go_ret
          exact ⟨rfl, below_on hbW hb⟩
        have hwn := HW.out rfl
        rw [roadD_all] at hwn
        obtain rfl : tn = want := by rw [HTN.out, hwn]
        clear HTN HW hwn
        go_wp2_with fail
        go_ret
        exact ⟨by simp, below_on hbW hb⟩
      obtain ⟨b0, b1, b2, b3, b4, b5, b6, bl⟩ := B0.seven
      have ki : (k : Int) < (ds.length : Int) := by omega
      obtain ⟨b, o, hbe, hbl, hc0, hc1, hc2, hc3, hc4⟩ := demand_at (RowsIn.keep HDS.out hb) hlt
      subst hbe
      have HST := Lib.hid (roadD_step p s day ds k hlt)
      have HFE : Hid (dmN p s ds[k] ≤ 1000000000) := HFD.out k hlt
      obtain ⟨z1, z2, z3, z4⟩ := HDM.out k hlt
      have HD1 : Hid ((ds[k].2.1.toList == s.toList) = true → dmN p s ds[k] = 1) := fun h => dmN_same h
      have HD2 : Hid ((ds[k].2.1.toList == s.toList) = false → 0 ≤ findIt p.it ds[k].2.1 → phan p.it ds[k].2.1 = true → dmN p s ds[k] = unitAt p s ds[k].2.1 ds[k].2.2.2.1) := fun h h0 h1 => dmN_ph h h0 h1
      have HD3 : Hid ((ds[k].2.1.toList == s.toList) = false → (decide (0 ≤ findIt p.it ds[k].2.1) && phan p.it ds[k].2.1) = false → dmN p s ds[k] = 0) := fun h h0 => dmN_out h h0
      generalize dmN p s ds[k] = dn at *
      generalize ds[k].2.1 = code at *
      generalize ds[k].2.2.1 = qt at *
      generalize ds[k].2.2.2.1 = rl at *
      clear hc0 hc4 b2 b3 b5 b6
      go_wp2_with fail
      refine wp_region_held_drew (S := fun w' => w'.cell? ⟨Pb, 0, none⟩ = some (.slice (some ⟨bi, oi, none⟩) p.it.length c0) ∧ w'.cell? ⟨b, o + k * 5 + 1, none⟩ = some (.string code) ∧ Below wr.heap.size wr w') (by kernel_rfl) (⟨b0, hc1, (Below.refl _ wr).drew⟩) (fun hHeld => ?_)
      refine held1 0 (some 117) hHeld ?_
      refine held1 1 (some 118) hHeld ?_
      refine held1 2 (some 119) hHeld ?_
      refine held1 3 (some 120) hHeld ?_
      refine held1 4 (some 121) hHeld ?_
      refine held1 5 (some 122) hHeld ?_
      refine held1 6 (some 123) hHeld ?_
      refine held_do 7 fun K hK => ?_
      go_simp
      go_at_call 10
      refine (specFindItem_any (some ⟨bi, oi, none⟩) p.it.length c0 p.it code _ (hpIt.out.keep (below_on hb hHeld.2.2))).mono ?_
      rintro e w' ⟨rfl, rfl⟩
      go_simp
      refine hK.out _ _ (hHeld) (fun hHeld => ?_)
      clear hK K
      refine held1 8 (some 18) hHeld ?_
      refine wpAnyH_done (by kernel_rfl) ?_ _
      clear hHeld
      replace hb : Below wq.heap.size wq wr.drew := hb.drew
      replace B0 : BoxOf wr.drew Pb [.slice (some ⟨bi, oi, none⟩) p.it.length c0, .slice a1 p.ls.length c1, .slice a2 n2 c2, .slice a3 n3 c3, .slice a4 n4 c4, .slice a5 n5 c5, .slice a6 n6 c6] := B0
      replace b0 : wr.drew.cell? _ = _ := b0
      replace b1 : wr.drew.cell? _ = _ := b1
      replace b4 : wr.drew.cell? _ = _ := b4
      replace hc1 : wr.drew.cell? _ = _ := hc1
      replace hc2 : wr.drew.cell? _ = _ := hc2
      replace hc3 : wr.drew.cell? _ = _ := hc3
      replace bl : Pb < wr.drew.heap.size := bl
      replace hbl : b < wr.drew.heap.size := hbl
      generalize wr.drew = wd at *
      by_cases hrd : rl ≤ day
      case neg =>
        have hrd2 : day < rl := by omega
        have HNO : Hid (evSum ((evsD p s ds).take (k + 1)) day = evSum ((evsD p s ds).take k) day) := by show _ = _; rw [HST.out, if_neg hrd, Int.add_zero]
        have HW2 : Hid (ph = false → want = eP + evSum ((evsD p s ds).take (k + 1)) day) := by show _ → _; rw [HNO.out]; exact HW.out
        clear HNO HST HW HD1 HD2 HD3
        go_wp2_with fail
        go_roundw
        case rel => exact ⟨k + 1, want, by omega, by go_num, rfl, by omega, HW2, B0, hb⟩
        case measure => simp [intOf]; omega
      cases heq : (code.toList == s.toList)
      case true =>
        have HYS : Hid (evSum ((evsD p s ds).take (k + 1)) day = evSum ((evsD p s ds).take k) day + qt) := by show _ = _; rw [HST.out, if_pos hrd, HD1.out heq, Int.one_mul]
        have HW2 : Hid (ph = false → want + qt = eP + evSum ((evsD p s ds).take (k + 1)) day) := fun hph => by rw [HYS.out, HW.out hph, Int.add_assoc]
        have hw : IntKind.i64.wrap (want + qt) = want + qt := IntWalk.i64_in _ (by omega)
        clear HYS HST HW HD1 HD2 HD3
        go_wp2_with fail
        go_roundw
        case rel => exact ⟨k + 1, want + qt, by omega, by go_num, rfl, by omega, HW2, B0, hb⟩
        case measure => simp [intOf]; omega
      cases hcp : (decide (0 ≤ findIt p.it code) && phan p.it code)
      case false =>
        by_cases hge : 0 ≤ findIt p.it code
        case neg =>
          have hgd : decide (0 ≤ findIt p.it code) = false := decide_eq_false hge
          have hg0 : findIt p.it code = -1 := by rcases findIt_cases p.it code with e | ⟨j, h1, h2, h3⟩ <;> omega
          rw [hg0]
          have HFX := Lib.hid hg0
          have HNO : Hid (evSum ((evsD p s ds).take (k + 1)) day = evSum ((evsD p s ds).take k) day) := by show _ = _; rw [HST.out, if_pos hrd, HD3.out heq hcp, Int.zero_mul, Int.add_zero]
          have HW2 : Hid (ph = false → want = eP + evSum ((evsD p s ds).take (k + 1)) day) := by show _ → _; rw [HNO.out]; exact HW.out
          clear hg0 hge hgd
          clear HNO HST HW HD1 HD2 HD3
          go_wp2_with fail
          go_roundw
          case rel => exact ⟨k + 1, want, by omega, by go_num, rfl, by omega, HW2, B0, hb⟩
          case measure => simp [intOf]; omega
        obtain ⟨j, hj⟩ : ∃ j : Nat, findIt p.it code = (j : Int) := ⟨(findIt p.it code).toNat, by omega⟩
        have j1 : j < p.it.length := by have := findIt_lt hge; omega
        have HKJ : Hid (phan p.it code = (p.it[j].2.2.1 == 2)) := by show _ = _; unfold phan; rw [hj, Int.toNat_natCast, List.getD_eq_getElem?_getD, List.getElem?_eq_getElem j1]; rfl
        obtain ⟨bj, oj, hje, hbj, u0, u1, u2, u3, u4, u5, u6, u7⟩ := item_at (hpIt.out.keep hb) j1
        obtain ⟨rfl, rfl⟩ : bi = bj ∧ oi = oj := by simpa using hje
        have ji : (j : Int) < (p.it.length : Int) := by omega
        have ji0 : (0 : Int) ≤ (j : Int) := by omega
        clear hje u0 u1 u3 u4 u5 u6 u7
        have hkj : (p.it[j].2.2.1 == 2) = false := by rw [← HKJ.out]; rw [decide_eq_true hge] at hcp; simpa using hcp
        have HD0 := HD3.out heq hcp
        generalize p.it[j].2.2.1 = kj at *
        rw [hj]
        have HJ := Lib.hid hj
        have HNO : Hid (evSum ((evsD p s ds).take (k + 1)) day = evSum ((evsD p s ds).take k) day) := by show _ = _; rw [HST.out, if_pos hrd, HD0, Int.zero_mul, Int.add_zero]
        have HW2 : Hid (ph = false → want = eP + evSum ((evsD p s ds).take (k + 1)) day) := by show _ → _; rw [HNO.out]; exact HW.out
        clear hj hge HD0 hcp HKJ
        clear HNO HST HW HD1 HD2 HD3
        go_wp2_with fail
        go_roundw
        case rel => exact ⟨k + 1, want, by omega, by go_num, rfl, by omega, HW2, B0, hb⟩
        case measure => simp [intOf]; omega
      obtain ⟨hge, hpc⟩ : 0 ≤ findIt p.it code ∧ phan p.it code = true := by simpa using hcp
      obtain ⟨j, hj⟩ : ∃ j : Nat, findIt p.it code = (j : Int) := ⟨(findIt p.it code).toNat, by omega⟩
      have j1 : j < p.it.length := by have := findIt_lt hge; omega
      have HKJ : Hid (phan p.it code = (p.it[j].2.2.1 == 2)) := by show _ = _; unfold phan; rw [hj, Int.toNat_natCast, List.getD_eq_getElem?_getD, List.getElem?_eq_getElem j1]; rfl
      obtain ⟨bj, oj, hje, hbj, u0, u1, u2, u3, u4, u5, u6, u7⟩ := item_at (hpIt.out.keep hb) j1
      obtain ⟨rfl, rfl⟩ : bi = bj ∧ oi = oj := by simpa using hje
      have ji : (j : Int) < (p.it.length : Int) := by omega
      have ji0 : (0 : Int) ≤ (j : Int) := by omega
      clear hje u0 u1 u3 u4 u5 u6 u7
      have hkj : p.it[j].2.2.1 = 2 := by have := HKJ.out.symm.trans hpc; simpa using this
      have HD0 := Lib.hid (HD2.out heq hge hpc)
      rw [hkj] at u2
      have HZ1 := Lib.hid hge
      rw [hj]
      have HJ := Lib.hid hj
      clear hj hge hpc hcp HKJ hkj HD1 HD2 HD3
      go_upto_region 28 with fail
      clear u2 ji ji0 hbj
      refine wp_region_held_drew (S := fun w' => w'.cell? ⟨Pb, 0, none⟩ = some (.slice (some ⟨bi, oi, none⟩) p.it.length c0) ∧ w'.cell? ⟨Pb, 1, none⟩ = some (.slice a1 p.ls.length c1) ∧ w'.cell? ⟨Pb, 4, none⟩ = some (.slice a4 n4 c4) ∧ w'.cell? ⟨b, o + k * 5 + 1, none⟩ = some (.string code) ∧ w'.cell? ⟨b, o + k * 5 + 2, none⟩ = some (.int .i64 qt) ∧ w'.cell? ⟨b, o + k * 5 + 3, none⟩ = some (.int .i64 rl) ∧ Pb < w'.heap.size ∧ b < w'.heap.size ∧ Below wd.heap.size wd w') (by kernel_rfl) (⟨b0, b1, b4, hc1, hc2, hc3, bl, hbl, (Below.refl _ wd).drew⟩) (fun hHeld => ?_)
      refine held1 0 (some 158) hHeld ?_
      refine held1 1 (some 159) hHeld ?_
      refine held1 2 (some 160) hHeld ?_
      refine held1 3 (some 161) hHeld ?_
      refine held1 4 (some 162) hHeld ?_
      refine held1 5 (some 163) hHeld ?_
      refine held1 6 (some 164) hHeld ?_
      refine held1 7 (some 165) hHeld ?_
      refine held1 8 (some 166) hHeld ?_
      refine held1 9 (some 167) hHeld ?_
      refine held1 10 (some 168) hHeld ?_
      refine held1 11 (some 169) hHeld ?_
      refine held1 12 (some 170) hHeld ?_
      refine held1 13 (some 171) hHeld ?_
      refine held1 14 (some 172) hHeld ?_
      refine held1 15 (some 173) hHeld ?_
      refine held1 16 (some 174) hHeld ?_
      refine held1 17 (some 175) hHeld ?_
      refine held1 18 (some 176) hHeld ?_
      refine held1 19 (some 177) hHeld ?_
      refine held1 20 (some 178) hHeld ?_
      refine held_do 21 fun K hK => ?_
      go_simp
      have hbP := below_on hb hHeld.2.2.2.2.2.2.2.2
      go_at_call 8
      refine (implPartsOf_any (some ⟨bi, oi, none⟩) a1 a4 _ c0 _ c1 n4 c4 p code s qt rl _ (hpIt.out.keep hbP) (hpLs.out.keep hbP) (hpCh.out.keep hbP) HO.out HIP.out HZ1.out HT3.out).mono ?_
      intro e w6 hpe
      obtain ⟨v6, f6, rfl, hpt, hb3⟩ := hpe.one
      go_simp
      refine hK.out _ _ (⟨(hb3.cell (p := ⟨Pb, 0, none⟩) hHeld.2.2.2.2.2.2.1).trans hHeld.1, (hb3.cell (p := ⟨Pb, 1, none⟩) hHeld.2.2.2.2.2.2.1).trans hHeld.2.1, (hb3.cell (p := ⟨Pb, 4, none⟩) hHeld.2.2.2.2.2.2.1).trans hHeld.2.2.1, (hb3.cell (p := ⟨b, o + k * 5 + 1, none⟩) hHeld.2.2.2.2.2.2.2.1).trans hHeld.2.2.2.1, (hb3.cell (p := ⟨b, o + k * 5 + 2, none⟩) hHeld.2.2.2.2.2.2.2.1).trans hHeld.2.2.2.2.1, (hb3.cell (p := ⟨b, o + k * 5 + 3, none⟩) hHeld.2.2.2.2.2.2.2.1).trans hHeld.2.2.2.2.2.1, Nat.lt_of_lt_of_le hHeld.2.2.2.2.2.2.1 hb3.size, Nat.lt_of_lt_of_le hHeld.2.2.2.2.2.2.2.1 hb3.size, below_on hHeld.2.2.2.2.2.2.2.2 hb3⟩) (fun hHeld => ?_)
      clear hK K
      refine held1 22 (some 157) hHeld ?_
      refine held1 23 (some 180) hHeld ?_
      refine held1 24 (some 181) hHeld ?_
      refine held1 25 (some 19) hHeld ?_
      refine held1 26 (some 20) hHeld ?_
      refine wpAnyH_done (by kernel_rfl) ?_ _
      have hs := hHeld.2.2.2.2.2.2.2.2
      have hbl' := hHeld.2.2.2.2.2.2.2.1
      have HPT := Lib.hid hpt
      clear hHeld hpt hpe hb3 b0 b1 b4 bl hbl hc1 hc2 hc3
      replace hb := below_on hb hs
      replace B0 := B0.keep hs
      clear hs hbP
      cases f6
      case false =>
        go_wp2_with fail
        go_ret
        exact ⟨rfl, below_on hbW hb⟩
      obtain ⟨pl, hrow, hpl12, hplb, hpls⟩ := HPT.out rfl
      obtain ⟨A6, c6', rfl, ho6⟩ := hrow.form
      have hin := ho6.rows (by omega)
      have HPS := Lib.hid hpls
      have HPB := Lib.hid hplb
      have hsb := inSum_bd pl s hplb pl.length
      rw [List.take_length] at hsb
      clear hpls hplb HPT hrow ho6
      have hUF : unitAt p s code rl ≤ 1000000000 := by rw [← HD0.out]; exact HFE.out
      have HYS : Hid (evSum ((evsD p s ds).take (k + 1)) day = evSum ((evsD p s ds).take k) day + unitAt p s code rl * qt) := by show _ = _; rw [HST.out, if_pos hrd, HD0.out]
      have HW2 : Hid (ph = false → want + inSum pl s = eP + evSum ((evsD p s ds).take (k + 1)) day) := fun hph => by rw [HYS.out, ← Int.add_assoc, ← HW.out hph, HPS.out (HPH.out.trans hph) hUF, Int.mul_comm]
      have hw : IntKind.i64.wrap (want + inSum pl s) = want + inSum pl s := IntWalk.i64_in _ (by omega)
      clear HYS HST HW HPS hUF
      go_wp2_with fail
      refine (lawIn_any A6 pl.length c6' pl s _ hin HPB.out hpl12).mono ?_
      rintro e w8 ⟨rfl, rfl⟩
      generalize inSum pl s = sm at *
      clear hin HPB
      go_wp2_with fail
      go_roundw
      case rel => exact ⟨k + 1, want + sm, by omega, by go_num, rfl, by omega, HW2, B0, hb⟩
      case measure => simp [intOf]; omega
end Go.Proofs.Ytlkolehdikfddaa
/- FnTwoRoads: for every input the law returns true; its argument reads behind the call as before. No condition. -/
namespace Go.Proofs.Ytlkolehdikfddaa
open Go.ChangeShapes Go.WideShapes Go.ChangeAt Go.RowKit
namespace fnTwoRoads
set_option maxRecDepth 100000 in
theorem lifted (os : Os) (started : os.Started) (H : Type) (enc : TypeId × Value → H) :
    ReturnsInHanded {} Try.checked os 3 .any (Rows.fnTwoRoadsSpec.pre6 enc Try.prog Try.f3 Rows.fnTwoRoadsRow.domain false) (Rows.fnTwoRoadsSpec.post enc Try.prog Try.f3 false true false false) := by
  refine returnsInHanded_of_change (C := Try.checked) own started (by kernel_rfl) Try.func3
    (ChangeSpec.witness6 (enc := enc) (C := Try.checked) false ⟨#[], #[.slice none 0 0], []⟩ 8 (by kernel_rfl) (by kernel_rfl) (by kernel_rfl) (by kernel_rfl)) ?_
  intro W base args ds gs before hval0 hW hcnd _
  have hval : ∀ (j : Nat) t v, Try.f3.params[j]? = some t → args[j]? = some v → Value.okWide Try.prog W .any base t v := hval0
  have hW' := hW
  obtain ⟨p, q, hA0, hV, rfl, hfz, hnd⟩ := hW
  have hA : DataW.TrodAll enc Try.prog W 0 (fun _ => true) true Try.f3.params.toList args.toList ds p := hA0
  rw [Try.params3] at hA hval
  obtain ⟨v0, vs0, d0, ds0, p0, q0, hargs, rfl, rfl, h0, r0⟩ := trodAll_cons hA
  obtain ⟨rfl, rfl, rfl⟩ := trodAll_nil r0
  obtain rfl : args = #[v0] := by cases args; simp_all
  obtain ⟨rfl, rfl⟩ := trodVars_none hV
  have k0 := h0
  have lt0 : ∀ x ∈ p0, x.block < W.heap.size := by obtain ⟨m, hm⟩ := k0; exact DataW.trod_lt m _ _ _ hm
  obtain ⟨a0, len0, cap0, rfl⟩ := okWide_slice Try.underlying22 (hval 0 22 v0 rfl rfl)
  obtain ⟨m0, z0, w0⟩ := open_bytesIn h0
  clear hA0 hval0
  refine (lawTwoRoads a0 len0 cap0 z0 w0 m0).mono fun e W' ⟨he, bel⟩ => ?_
  subst he
  exact ⟨_, rfl, _, _, _, [], _, [], hW', trodAll_mk1 (shut_bool Try.underlying4 _), (trodAll_cons_mk (Below.trod laidOut (by kernel_rfl) (of_decide_eq_true (by kernel_rfl)) k0 bel lt0) trodAll_mk0), rfl, bel.frame _, fun h => by cases h⟩
theorem over : Rows.fnTwoRoadsRow.holds Try.pinned (OpenSpec.ofChange Rows.fnTwoRoadsSpec) :=
  OpenClaim.holds_of_wide 3 Try.f3 rfl rfl rfl rfl rfl rfl rfl ⟨rfl, rfl, rfl, rfl, rfl⟩ rfl rfl rfl rfl rfl (by kernel_rfl) Try.func3 (by kernel_rfl)
    (of_decide_eq_true (by kernel_rfl)) (by unfold Func.isWrapper; first | (rw [if_pos (by decide +kernel)]; kernel_rfl) | (rw [if_neg (by decide +kernel)]; exact ⟨rfl, rfl⟩))
    (fun os started H enc _ => lifted os started H enc)
theorem proved : Rows.FnTwoRoadsSaid := over
#print axioms proved
end fnTwoRoads
end Go.Proofs.Ytlkolehdikfddaa
