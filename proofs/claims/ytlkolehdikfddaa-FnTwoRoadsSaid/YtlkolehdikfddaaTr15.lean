/- Part 15 of the texts of this claim: The walk of l18Unit. -/
import Derived.Test.YtlkolehdikfddaaTr13
import Derived.Test.YtlkolehdikfddaaTr14
/- The walk of l18Unit. -/
namespace Go.Proofs.Ytlkolehdikfddaa
open Go.RowKit
theorem isCat_12 {l : List It} (h : isCat l = true) : l.length ≤ 12 := by
  simp only [isCat, Bool.and_eq_true, decide_eq_true_eq] at h
  omega
set_option maxRecDepth 100000 in
set_option maxHeartbeats 8000000 in
theorem l18Unit_any (r : PtR) (p : Pt) (code part : ByteArray) (day : Int) (w : World) (hp : PlantIn w r p) (hpl : isPlant p = true) (h0 : 0 ≤ findIt p.it code) :
    Calls Try.prog 45 #[.agg #[.slice r.i.a r.i.n r.i.c, .slice r.l.a r.l.n r.l.c, .slice r.w.a r.w.n r.w.c, .slice r.e.a r.e.n r.e.c, .slice r.p.a r.p.n r.p.c, .slice r.s.a r.s.n r.s.c, .slice r.q.a r.q.n r.q.c], .string code, .string part, .int .i64 day] w fun e w' => e = .returned (.int .i64 (capv (unitAt p part code day))) ∧ Below w.heap.size w w' := by
  obtain ⟨hL, hLI⟩ := lev_of (isPlant_parts hpl).1
  obtain ⟨hcat, h24, hok, htn⟩ := isBills_parts (isPlant_parts hpl).1
  have h12 := isCat_12 hcat
  have HFND : Hid (∀ k (hk : k < p.ls.length), 0 ≤ findIt p.it p.ls[k].1 ∧ 0 ≤ findIt p.it p.ls[k].2.1) := fun k hk => ⟨(okLine_parts (hok k hk)).1, (okLine_parts (hok k hk)).2.1⟩
  have HCND : Hid (∀ k (hk : k < p.ls.length), isCond p.ls[k].2.2.2.2.2 = true ∧ (1 ≤ p.ls[k].2.2.1 ∧ p.ls[k].2.2.1 ≤ 1000)) := fun k hk => ⟨(okLine_parts (hok k hk)).2.2.2.2.2, (okLine_parts (hok k hk)).2.2.1⟩
  generalize runTo (edges p.it p.ls) p.it.length p.it.length = lev at hL hLI
  clear hcat hok htn hpl
  have hll := hL.len
  have HUO : Hid (∀ on : Bl → Bool, (inTo p.it p.ls on part ((ordOf lev p.it.length).drop 0)).getD (findIt p.it code).toNat 0 = capv (unitV p.it p.ls on part code)) := fun on => unit_order hL on part code h0
  have HMEM : Hid (∀ k (hk : k < (ordOf lev p.it.length).length), (ordOf lev p.it.length)[k] < p.it.length) := fun k hk => by
    have := (ordOf_mem.1 (List.getElem_mem hk)).1
    omega
  have HOL : Hid ((ordOf lev p.it.length).length ≤ 144) := by
    have := ordOf_len lev p.it.length
    have := Nat.mul_le_mul (show p.it.length ≤ 12 from h12) (show lev.length ≤ 12 by omega)
    show _ ≤ _
    omega
  clear hL
  obtain ⟨⟨a0, n0, c0⟩, ⟨a1, n1, c1⟩, ⟨a2, n2, c2⟩, ⟨a3, n3, c3⟩, ⟨a4, n4, c4⟩, ⟨a5, n5, c5⟩, ⟨a6, n6, c6⟩⟩ := r
  have HQ0 := Lib.hid hp.it
  have HQ1 := Lib.hid hp.ls
  have HQ4 := Lib.hid hp.ch
  dsimp only at HQ0 HQ1 HQ4 ⊢
  clear hp
  have hn0 : n0 = p.it.length := HQ0.out.1
  have hn1 : n1 = p.ls.length := HQ1.out.num
  subst hn0
  subst hn1
  have hb := below_alloc w (.cells #[.slice a0 p.it.length c0, .slice a1 p.ls.length c1, .slice a2 n2 c2, .slice a3 n3 c3, .slice a4 n4 c4, .slice a5 n5 c5, .slice a6 n6 c6] 34)
  have B0 : BoxOf (w.alloc (.cells #[.slice a0 p.it.length c0, .slice a1 p.ls.length c1, .slice a2 n2 c2, .slice a3 n3 c3, .slice a4 n4 c4, .slice a5 n5 c5, .slice a6 n6 c6] 34)) w.heap.size [.slice a0 p.it.length c0, .slice a1 p.ls.length c1, .slice a2 n2 c2, .slice a3 n3 c3, .slice a4 n4 c4, .slice a5 n5 c5, .slice a6 n6 c6] := boxOf_alloc w #[.slice a0 p.it.length c0, .slice a1 p.ls.length c1, .slice a2 n2 c2, .slice a3 n3 c3, .slice a4 n4 c4, .slice a5 n5 c5, .slice a6 n6 c6] 34
  have hz : (w.alloc (.cells #[.slice a0 p.it.length c0, .slice a1 p.ls.length c1, .slice a2 n2 c2, .slice a3 n3 c3, .slice a4 n4 c4, .slice a5 n5 c5, .slice a6 n6 c6] 34)).heap.size = w.heap.size + 1 := by simp
  go_enter Try.func45, Try.ntmps45
  go_wp2_with (at_make; refine wpList_make_nums rfl _ _ rfl w.heap.size p.it.length rfl rfl rfl rfl (by omega) (by simp) ?_; intro w5 hA hA2 hA3; have B1 := B0.keep hA2; obtain ⟨b0, b1, b2, b3, b4, b5, b6, bl⟩ := B1.seven)
  have hb1 := below_on hb hA2
  have hA1 : NumRow w5 w.heap.size (w.heap.size + 1) p.it.length p.it.length (List.replicate p.it.length 0) := by rw [hz] at hA; exact hA
  have hgl : w.heap.size + 1 < w5.heap.size := by rw [hz] at hA3; exact hA3
  clear hA hA2 hA3 b0 b1 b2 b3 b4 b5 b6 bl hb B0 hz
  refine (l9Levels_any _ _ _ _ _ _ p.it p.ls _ (HQ0.out.keep hb1) (HQ1.out.keep hb1) h12 h24 HFND.out).mono ?_
  rintro e w6 ⟨A6, k6, d6, rfl, ho6, hs⟩
  rw [hLI] at ho6
  have hints : IntsIn w6 A6 k6 (natI lev) := ho6.ints (by rw [natI_len, hll]; omega)
  replace hb1 := below_on hb1 hs
  replace B1 := B1.keep hs
  replace hA1 := hA1.keep hs
  replace hgl := Nat.lt_of_lt_of_le hgl hs.size
  clear hs ho6 hLI
  go_wp2_with fail
  refine (l10Order_any _ _ _ lev _ hints (by omega)).mono ?_
  rintro e w7 ⟨g7, q7, rfl, ho7, hs⟩
  rw [hll] at ho7 ⊢
  replace hb1 := below_on hb1 hs
  replace B1 := B1.keep hs
  replace hA1 := hA1.keep hs
  have hne : w.heap.size + 1 ≠ g7 := by have := ho7.lt.1; omega
  replace ho7 := ho7.lower (lo' := w.heap.size) (by omega)
  replace hgl := Nat.lt_of_lt_of_le hgl hs.size
  clear hs hints
  generalize hord : ordOf lev p.it.length = ord at *
  have hol := HOL.out
  have hw1 : IntKind.i64.wrap ((ord.length : Int) - 1) = (ord.length : Int) - 1 := IntWalk.i64_in _ (by omega)
  generalize hgi : w.heap.size + 1 = gi at *
  have HIN : Hid (inTo p.it p.ls (lineOn p.ch day) part (ord.drop ord.length) = List.replicate p.it.length 0) := by show _ = _; rw [List.drop_length]; rfl
  go_wp2_with fail
  go_loopw [11] (fun i wr => ∃ K : Nat, K ≤ ord.length ∧ i = .int .i64 ((K : Int) - 1) ∧ NumRow wr w.heap.size gi p.it.length p.it.length (inTo p.it p.ls (lineOn p.ch day) part (ord.drop K)) ∧ NumRow wr w.heap.size g7 ord.length q7 (natI ord) ∧ BoxOf wr w.heap.size [.slice a0 p.it.length c0, .slice a1 p.ls.length c1, .slice a2 n2 c2, .slice a3 n3 c3, .slice a4 n4 c4, .slice a5 n5 c5, .slice a6 n6 c6] ∧ Below w.heap.size w wr) (fun i _ => (intOf i + 1).toNat)
  case atStart => exact ⟨ord.length, Nat.le_refl _, by go_num, by rw [HIN.out]; exact hA1, ho7, B1, hb1⟩
  case round =>
    clear hA1 ho7 B1 hb1 hw1 HIN
    obtain ⟨K, hK, rfl, hA, hO, B0, hb⟩ := hrel
    obtain ⟨b0, b1, b2, b3, b4, b5, b6, bl⟩ := B0.seven
    by_cases hK0 : K = 0
    · subst hK0
      go_wp2_with fail
      refine (specFindItem_any _ _ _ p.it _ _ (HQ0.out.keep hb)).mono ?_
      rintro e w' ⟨rfl, rfl⟩
      have HV := Lib.hid (HUO.out (lineOn p.ch day))
      obtain ⟨f1, f2⟩ := findIt_bd p.it code
      have f3 : ((findIt p.it code).toNat : Int) = findIt p.it code := by omega
      have f4 : (findIt p.it code).toNat < p.it.length := by omega
      have cF := hA.cellN f4
      rw [HV.out] at cF
      generalize hfe : (findIt p.it code).toNat = fi at *
      rw [← f3]
      go_wp2_with fail
      go_ret
      exact ⟨rfl, hb⟩
    obtain ⟨k, rfl⟩ : ∃ k, K = k + 1 := ⟨K - 1, by omega⟩
    have ek : ((k + 1 : Nat) : Int) - 1 = (k : Int) := by omega
    rw [ek]
    clear ek hK0
    have hkl : k < ord.length := by omega
    have hal := HMEM.out k hkl
    have HCO := Lib.hid (inTo_cons p.it p.ls (lineOn p.ch day) part ord k hkl)
    have cO := hO.cell (j := k) (by rw [natI_len]; exact hkl)
    have cO2 : wr.cell? ⟨g7, k, none⟩ = some (.int .i64 (ord[k] : Int)) := by rw [cO]; simp [natI]
    clear cO
    generalize hao : ord[k] = a at *
    have HM0 := Lib.hid (inTo_bd p.it p.ls (lineOn p.ch day) part (ord.drop (k + 1)))
    have hml := inTo_len p.it p.ls (lineOn p.ch day) part (ord.drop (k + 1))
    generalize inTo p.it p.ls (lineOn p.ch day) part (ord.drop (k + 1)) = m0 at *
    obtain ⟨bi, oi, rfl, hbi, t0, t1, t2, t3, t4, t5, t6, t7⟩ := item_at (HQ0.out.keep hb) hal
    have j1 : (a : Int) < (p.it.length : Int) := by omega
    have j2 : (k : Int) < (ord.length : Int) := by omega
    go_wp2_with fail
    go_region_held3 (fun w' => w'.cell? ⟨w.heap.size, 0, none⟩ = some (.slice (some ⟨bi, oi, none⟩) p.it.length c0) ∧ w'.cell? ⟨g7, k, none⟩ = some (.int .i64 (a : Int)) ∧ w'.cell? ⟨bi, oi + a * 8, none⟩ = some (.string p.it[a].1) ∧ w'.cell? ⟨bi, oi + a * 8 + 1, none⟩ = some (.string p.it[a].2.1) ∧ w'.cell? ⟨bi, oi + a * 8 + 2, none⟩ = some (.int .i64 p.it[a].2.2.1) ∧ w'.cell? ⟨bi, oi + a * 8 + 3, none⟩ = some (.int .i64 p.it[a].2.2.2.1) ∧ w'.cell? ⟨bi, oi + a * 8 + 4, none⟩ = some (.int .i64 p.it[a].2.2.2.2.1) ∧ w'.cell? ⟨bi, oi + a * 8 + 5, none⟩ = some (.int .i64 p.it[a].2.2.2.2.2.1) ∧ w'.cell? ⟨bi, oi + a * 8 + 6, none⟩ = some (.int .i64 p.it[a].2.2.2.2.2.2.1) ∧ w'.cell? ⟨bi, oi + a * 8 + 7, none⟩ = some (.int .i64 p.it[a].2.2.2.2.2.2.2)) (go_keep) (fail)
    have hs := (below_alloc wr (.cells #[.string p.it[a].1, .string p.it[a].2.1, .int .i64 p.it[a].2.2.1, .int .i64 p.it[a].2.2.2.1, .int .i64 p.it[a].2.2.2.2.1, .int .i64 p.it[a].2.2.2.2.2.1, .int .i64 p.it[a].2.2.2.2.2.2.1, .int .i64 p.it[a].2.2.2.2.2.2.2] 47)).drew
    have BX : BoxOf (wr.alloc (.cells #[.string p.it[a].1, .string p.it[a].2.1, .int .i64 p.it[a].2.2.1, .int .i64 p.it[a].2.2.2.1, .int .i64 p.it[a].2.2.2.2.1, .int .i64 p.it[a].2.2.2.2.2.1, .int .i64 p.it[a].2.2.2.2.2.2.1, .int .i64 p.it[a].2.2.2.2.2.2.2] 47)).drew wr.heap.size [.string p.it[a].1, .string p.it[a].2.1, .int .i64 p.it[a].2.2.1, .int .i64 p.it[a].2.2.2.1, .int .i64 p.it[a].2.2.2.2.1, .int .i64 p.it[a].2.2.2.2.2.1, .int .i64 p.it[a].2.2.2.2.2.2.1, .int .i64 p.it[a].2.2.2.2.2.2.2] := (boxOf_alloc wr #[.string p.it[a].1, .string p.it[a].2.1, .int .i64 p.it[a].2.2.1, .int .i64 p.it[a].2.2.2.1, .int .i64 p.it[a].2.2.2.2.1, .int .i64 p.it[a].2.2.2.2.2.1, .int .i64 p.it[a].2.2.2.2.2.2.1, .int .i64 p.it[a].2.2.2.2.2.2.2] 47).keep (Below.refl _ _).drew
    replace hb := below_on hb hs
    replace B0 := B0.keep hs
    replace hO := hO.keep hs
    have hNX : gi < wr.heap.size := by have := hA.lt; omega
    replace hA := hA.keep hs
    generalize (wr.alloc (.cells #[.string p.it[a].1, .string p.it[a].2.1, .int .i64 p.it[a].2.2.1, .int .i64 p.it[a].2.2.2.1, .int .i64 p.it[a].2.2.2.2.1, .int .i64 p.it[a].2.2.2.2.2.1, .int .i64 p.it[a].2.2.2.2.2.2.1, .int .i64 p.it[a].2.2.2.2.2.2.2] 47)).drew = V at *
    generalize wr.heap.size = NX at *
    clear b0 b1 b2 b3 b4 b5 b6 bl t0 t1 t2 t3 t4 t5 t6 t7 hs cO2 hbi
    go_wp2_with fail
    go_loopw [13] (fun j wi => ∃ i : Nat, i ≤ p.ls.length ∧ j = .int .i64 i ∧ NumRow wi w.heap.size gi p.it.length p.it.length ((p.ls.take i).foldl (inLine p.it (lineOn p.ch day) part a) m0) ∧ NumRow wi w.heap.size g7 ord.length q7 (natI ord) ∧ BoxOf wi w.heap.size [.slice (some ⟨bi, oi, none⟩) p.it.length c0, .slice a1 p.ls.length c1, .slice a2 n2 c2, .slice a3 n3 c3, .slice a4 n4 c4, .slice a5 n5 c5, .slice a6 n6 c6] ∧ BoxOf wi NX [.string p.it[a].1, .string p.it[a].2.1, .int .i64 p.it[a].2.2.1, .int .i64 p.it[a].2.2.2.1, .int .i64 p.it[a].2.2.2.2.1, .int .i64 p.it[a].2.2.2.2.2.1, .int .i64 p.it[a].2.2.2.2.2.2.1, .int .i64 p.it[a].2.2.2.2.2.2.2] ∧ Below w.heap.size w wi) (fun j _ => p.ls.length - (intOf j).toNat)
    case atStart => exact ⟨0, by omega, rfl, hA, hO, B0, BX, hb⟩
    case round =>
      clear hA hO B0 BX hb
      obtain ⟨i, hi, rfl, hA, hO, B0, BX, hb⟩ := hrel
      obtain ⟨b0, b1, b2, b3, b4, b5, b6, bl⟩ := B0.seven
      by_cases hlt : i < p.ls.length
      case neg =>
        obtain rfl : i = p.ls.length := by omega
        rw [← HCO.out] at hA
        have hw2 : IntKind.i64.wrap ((k : Int) - 1) = (k : Int) - 1 := IntWalk.i64_in _ (by have := HOL.out; omega)
        go_wp2_with fail
        go_roundw
        case rel => exact ⟨k, by omega, rfl, hA, hO, B0, hb⟩
        case measure => first | (simp [intOf]; done) | (simp [intOf]; omega)
      have HFT := Lib.hid (inFold_take p.it (lineOn p.ch day) part a p.ls m0 i hlt)
      have HMB := Lib.hid (inFold_bd p.it (lineOn p.ch day) part a (p.ls.take i) m0 HM0.out)
      have hMl := inFold_len p.it (lineOn p.ch day) part a (p.ls.take i) m0
      rw [hml] at hMl
      have HX : Hid (p.it.getD a itNone = p.it[a]) := by show _ = _; rw [List.getD_eq_getElem?_getD, List.getElem?_eq_getElem hal]; rfl
      generalize hMM : (p.ls.take i).foldl (inLine p.it (lineOn p.ch day) part a) m0 = M at *
      clear hMM
      obtain ⟨bo, oo, Bw, mw, cw, rfl, hbo, l0, l1, l2, l3, l4, l5, hcd⟩ := bl_at (HQ1.out.keep hb) hlt
      obtain ⟨hcond, hq1, hq2⟩ := HCND.out i hlt
      obtain ⟨hf1, hf2⟩ := HFND.out i hlt
      have x0 := BX.2 0 _ rfl
      cases he : (p.ls[i].1.toList == p.it[a].1.toList)
      case false =>
        have HNO : Hid ((p.ls.take (i + 1)).foldl (inLine p.it (lineOn p.ch day) part a) m0 = M) := by show _ = _; rw [HFT.out]; exact inLine_no _ _ _ _ _ _ (by rw [HX.out, he]; rfl)
        go_wp2_with fail
        refine wp_region_held_drew (S := (fun w' => w'.cell? ⟨w.heap.size, 1, none⟩ = some (.slice (some ⟨bo, oo, none⟩) p.ls.length c1) ∧ w'.cell? ⟨bo, oo + i * 6, none⟩ = some (.string p.ls[i].1) ∧ w'.cell? ⟨NX, 0, none⟩ = some (.string p.it[a].1) ∧ w' = wr.drew)) (by kernel_rfl) ⟨b1, l0, x0, rfl⟩ (fun hHeld => ?_)
        refine held1 0 (some 48) hHeld ?_
        refine held1 1 (some 49) hHeld ?_
        refine held1 2 (some 50) hHeld ?_
        refine held1 3 (some 51) hHeld ?_
        refine held1 4 (some 52) hHeld ?_
        refine held1 5 (some 53) hHeld ?_
        refine held1 6 (some 54) hHeld ?_
        refine held1 7 (some 55) hHeld ?_
        refine held1 8 (some 56) hHeld ?_
        refine held1 9 (some 57) hHeld ?_
        refine held0 10 (some 58) hHeld ?_
        refine held0 11 (some 59) hHeld ?_
        refine held0 12 (some 60) hHeld ?_
        refine held0 13 (some 61) hHeld ?_
        refine held0 14 (some 62) hHeld ?_
        refine held0 15 (some 63) hHeld ?_
        refine held0 16 (some 64) hHeld ?_
        refine held0 17 (some 65) hHeld ?_
        refine held0 18 (some 66) hHeld ?_
        refine held0 19 (some 67) hHeld ?_
        refine held1 20 (some 68) hHeld ?_
        refine wpAnyH_done (by kernel_rfl) ?_ _
        obtain ⟨y_c1, y_l0, y_x0, y_W⟩ := hHeld
        clear y_c1 y_l0 y_x0 y_W
        go_wp2_with fail
        go_roundw
        case rel => exact ⟨i + 1, by omega, by go_num, by rw [HNO.out]; exact hA.keep (Below.refl _ _).drew, hO.keep (Below.refl _ _).drew, B0.keep (Below.refl _ _).drew, BX.keep (Below.refl _ _).drew, hb.drew⟩
        case measure => simp [intOf]; omega
      go_wp2_with fail
      refine wp_region_held_drew (S := (fun w' => w'.cell? ⟨w.heap.size, 1, none⟩ = some (.slice (some ⟨bo, oo, none⟩) p.ls.length c1) ∧ w'.cell? ⟨w.heap.size, 4, none⟩ = some (.slice a4 n4 c4) ∧ w'.cell? ⟨bo, oo + i * 6, none⟩ = some (.string p.ls[i].1) ∧ w'.cell? ⟨bo, oo + i * 6 + 1, none⟩ = some (.string p.ls[i].2.1) ∧ w'.cell? ⟨bo, oo + i * 6 + 2, none⟩ = some (.int .i64 p.ls[i].2.2.1) ∧ w'.cell? ⟨bo, oo + i * 6 + 3, none⟩ = some (.int .i64 p.ls[i].2.2.2.1) ∧ w'.cell? ⟨bo, oo + i * 6 + 4, none⟩ = some (.int .i64 p.ls[i].2.2.2.2.1) ∧ w'.cell? ⟨bo, oo + i * 6 + 5, none⟩ = some (.slice Bw mw cw) ∧ w'.cell? ⟨NX, 0, none⟩ = some (.string p.it[a].1) ∧ w.heap.size < w'.heap.size ∧ bo < w'.heap.size ∧ NX < w'.heap.size ∧ Below wr.heap.size wr w')) (by kernel_rfl) ⟨b1, b4, l0, l1, l2, l3, l4, l5, x0, bl, hbo, BX.1, (Below.refl _ _).drew⟩ (fun hHeld => ?_)
      refine held1 0 (some 48) hHeld ?_
      refine held1 1 (some 49) hHeld ?_
      refine held1 2 (some 50) hHeld ?_
      refine held1 3 (some 51) hHeld ?_
      refine held1 4 (some 52) hHeld ?_
      refine held1 5 (some 53) hHeld ?_
      refine held1 6 (some 54) hHeld ?_
      refine held1 7 (some 55) hHeld ?_
      refine held1 8 (some 56) hHeld ?_
      refine held1 9 (some 57) hHeld ?_
      refine held1 10 (some 58) hHeld ?_
      refine held1 11 (some 59) hHeld ?_
      refine held1 12 (some 60) hHeld ?_
      refine held1 13 (some 61) hHeld ?_
      refine held1 14 (some 62) hHeld ?_
      refine held1 15 (some 63) hHeld ?_
      refine held1 16 (some 64) hHeld ?_
      refine held1 17 (some 65) hHeld ?_
      refine held_do 18 fun K hK => ?_
      go_simp
      go_at_call 66; refine (specOn_any p.ls[i] _ _ _ _ _ _ day p.ch _ (hcd.keep (by obtain ⟨y_c1, y_c4, y_l0, y_l1, y_l2, y_l3, y_l4, y_l5, y_x0, y_n, y_b, y_x, y_R⟩ := hHeld; exact y_R)) (HQ4.out.keep (below_on hb (by obtain ⟨y_c1, y_c4, y_l0, y_l1, y_l2, y_l3, y_l4, y_l5, y_x0, y_n, y_b, y_x, y_R⟩ := hHeld; exact y_R))) hcond).mono ?_; rintro e w6 ⟨rfl, hb3⟩; go_simp
      refine hK.out _ _ ?_ (fun hHeld => ?_)
      · obtain ⟨y_c1, y_c4, y_l0, y_l1, y_l2, y_l3, y_l4, y_l5, y_x0, y_n, y_b, y_x, y_R⟩ := hHeld; exact ⟨(hb3.cell y_n).trans y_c1, (hb3.cell y_n).trans y_c4, (hb3.cell y_b).trans y_l0, (hb3.cell y_b).trans y_l1, (hb3.cell y_b).trans y_l2, (hb3.cell y_b).trans y_l3, (hb3.cell y_b).trans y_l4, (hb3.cell y_b).trans y_l5, (hb3.cell y_x).trans y_x0, Nat.lt_of_lt_of_le y_n hb3.size, Nat.lt_of_lt_of_le y_b hb3.size, Nat.lt_of_lt_of_le y_x hb3.size, below_on y_R hb3⟩
      clear hK K
      refine held1 19 (some 67) hHeld ?_
      refine held1 20 (some 68) hHeld ?_
      refine wpAnyH_done (by kernel_rfl) ?_ _
      obtain ⟨y_c1, y_c4, y_l0, y_l1, y_l2, y_l3, y_l4, y_l5, y_x0, y_n, y_b, y_x, y_R⟩ := hHeld
      replace hA := hA.keep y_R
      replace hO := hO.keep y_R
      replace B0 := B0.keep y_R
      replace BX := BX.keep y_R
      replace hb := below_on hb y_R
      clear y_c1 y_c4 y_l0 y_l1 y_l2 y_l3 y_l4 y_l5 y_x0 y_n y_b y_x y_R b0 b1 b2 b3 b4 b5 b6 bl l0 l1 l2 l3 l4 l5 hcd x0 hbo
      cases hon : lineOn p.ch day p.ls[i]
      case false =>
        have HNO : Hid ((p.ls.take (i + 1)).foldl (inLine p.it (lineOn p.ch day) part a) m0 = M) := by show _ = _; rw [HFT.out]; exact inLine_no _ _ _ _ _ _ (by rw [hon]; simp)
        go_wp2_with fail
        go_roundw
        case rel => exact ⟨i + 1, by omega, by go_num, by rw [HNO.out]; exact hA, hO, B0, BX, hb⟩
        case measure => simp [intOf]; omega
      have HYES : Hid (((p.ls[i].1.toList == (p.it.getD a itNone).1.toList) && lineOn p.ch day p.ls[i]) = true) := by show _ = _; rw [HX.out, he, hon]; rfl
      clear he hon HX
      go_wp2_with fail
      obtain ⟨_, _, _, _, _, e9, hbo, l0, l1, l2, l3, l4, l5, _⟩ := bl_at (HQ1.out.keep hb) hlt
      obtain ⟨rfl, rfl⟩ : bo = _ ∧ oo = _ := by simpa using e9
      clear e9
      obtain ⟨b0, b1, b2, b3, b4, b5, b6, bl⟩ := B0.seven
      have HIT := Lib.hid (HQ0.out.keep hb)
      go_quiet ((go_at_call 10; refine (specFindItem_any _ _ _ p.it _ _ (HIT.out.keep (below_drewN (Below.refl _ _) _))).mono ?_; rintro e w' ⟨rfl, rfl⟩; exact ⟨rfl, _, rfl⟩))
      replace hA := hA.keep (below_drewN (Below.refl _ _) nq)
      replace hO := hO.keep (below_drewN (Below.refl _ _) nq)
      replace B0 := B0.keep (below_drewN (Below.refl _ _) nq)
      replace BX := BX.keep (below_drewN (Below.refl _ _) nq)
      replace hb := below_drewN hb nq
      clear b0 b1 b2 b3 b4 b5 b6 bl l0 l1 l2 l3 l4 l5 hbo HIT
      generalize hWq : w6.drewN nq = wq at *
      clear hWq
      obtain ⟨_, _, _, _, _, e9, hbo, l0, l1, l2, l3, l4, l5, _⟩ := bl_at (HQ1.out.keep hb) hlt
      obtain ⟨rfl, rfl⟩ : bo = _ ∧ oo = _ := by simpa using e9
      clear e9
      obtain ⟨b0, b1, b2, b3, b4, b5, b6, bl⟩ := B0.seven
      obtain ⟨f4, f4b⟩ := findIt_bd p.it p.ls[i].2.1
      obtain ⟨qn, hqn⟩ : ∃ qn : Nat, findIt p.it p.ls[i].2.1 = (qn : Int) := ⟨(findIt p.it p.ls[i].2.1).toNat, by omega⟩
      have q1 : qn < p.it.length := by omega
      have q2 : (qn : Int) < (p.it.length : Int) := by omega
      have q3 : (0 : Int) ≤ (qn : Int) := by omega
      obtain ⟨_, _, e9, hbi, t0, t1, t2, _⟩ := item_at (HQ0.out.keep hb) q1
      obtain ⟨rfl, rfl⟩ : bi = _ ∧ oi = _ := by simpa using e9
      clear e9
      have HPH : Hid (phan p.it p.ls[i].2.1 = (p.it[qn].2.2.1 == 2)) := by show _ = _; unfold phan; rw [hqn, Int.toNat_natCast, List.getD_eq_getElem?_getD, List.getElem?_eq_getElem q1]; rfl
      have HQN : Hid ((findIt p.it p.ls[i].2.1).toNat = qn) := by show _ = _; rw [hqn]; rfl
      rw [hqn]
      clear hqn f4 f4b hf1 hf2
      have cA := hA.cellN hal
      have fA := hA.frozen a
      have cQ := hA.cellN q1
      have hbA := HMB.out a
      have hbQ := HMB.out qn
      have cO := hO.cell (j := k) (by rw [natI_len]; exact hkl)
      have cO2 : wq.cell? ⟨g7, k, none⟩ = some (.int .i64 (a : Int)) := by rw [cO]; simp [natI, hao]
      clear cO
      cases hpt : (p.ls[i].2.1.toList == part.toList)
      case true =>
        have HN1 : Hid (nOf p.it part M p.ls[i] = 1) := by show _ = _; unfold nOf; rw [if_pos hpt]
        have HYY : Hid ((p.ls.take (i + 1)).foldl (inLine p.it (lineOn p.ch day) part a) m0 = M.set a (plusC (M.getD a 0) (timesC 1 p.ls[i].2.2.1))) := by show _ = _; rw [HFT.out, inLine_yes _ _ _ _ _ _ HYES.out (by rw [HN1.out]; exact by decide), HN1.out]
        have hT := timesC_bd 1 p.ls[i].2.2.1 (by omega)
        have HTB := Lib.hid hT
        generalize hma : M.getD a 0 = mv at *
        have HMA := Lib.hid hma
        clear hma
        go_wp2_with fail
        go_still_tail 22, (by kernel_rfl)
        still_call ((l10Times_any _ _ _ (by omega) (by omega)).mono (fun e w' h => ⟨h.1, h.2.symm⟩))
        repeat still_step
        still_call ((l10Plus_any _ _ _ (by omega) (by omega)).mono (fun e w' h => ⟨h.1, h.2.symm⟩))
        repeat still_step
        refine wpStill_nil ?_
        change wpList _ _ _ _ _ wq.drew
        replace hA := hA.keep (Below.refl wq.heap.size wq).drew
        replace hO := hO.keep (Below.refl wq.heap.size wq).drew
        replace B0 := B0.keep (Below.refl wq.heap.size wq).drew
        replace BX := BX.keep (Below.refl wq.heap.size wq).drew
        replace hb := hb.drew
        clear cA fA cQ cO2 b0 b1 b2 b3 b4 b5 b6 bl l0 l1 l2 l3 l4 l5 hbo t0 t1 t2 hbi
        generalize wq.drew = W8 at *
        obtain ⟨_, _, _, _, _, e9, hbo, l0, l1, l2, l3, l4, l5, _⟩ := bl_at (HQ1.out.keep hb) hlt
        obtain ⟨rfl, rfl⟩ : bo = _ ∧ oo = _ := by simpa using e9
        obtain ⟨b0, b1, b2, b3, b4, b5, b6, bl⟩ := B0.seven
        have cA := hA.cellN hal
        rw [HMA.out] at cA
        have fA := hA.frozen a
        have cO := hO.cell (j := k) (by rw [natI_len]; exact hkl)
        have cO2 : W8.cell? ⟨g7, k, none⟩ = some (.int .i64 (a : Int)) := by rw [cO]; simp [natI, hao]
        clear cO e9
        go_wp2_with fail
        have hNW : w.heap.size ≠ gi := by omega
        go_roundw
        case rel => exact ⟨i + 1, by omega, by go_num, by rw [HYY.out]; exact hA.set a _, hO.far (by show gi ≠ g7; omega), B0.off (by show gi ≠ w.heap.size; omega) _, BX.off (by show gi ≠ NX; omega) _, hb.setCell (p := ⟨gi, a, none⟩) (by show w.heap.size ≤ gi; omega) _⟩
        case measure => simp [intOf]; omega
      cases hk2 : (p.it[qn].2.2.1 == 2)
      case false =>
        have HNO : Hid ((p.ls.take (i + 1)).foldl (inLine p.it (lineOn p.ch day) part a) m0 = M) := by show _ = _; rw [HFT.out]; exact inLine_zero _ _ _ _ _ _ (by unfold nOf; rw [if_neg (by rw [hpt]; decide), HPH.out, hk2]; rfl)
        go_wp2_with fail
        go_roundw
        case rel => exact ⟨i + 1, by omega, by go_num, by rw [HNO.out]; exact hA, hO, B0, BX, hb⟩
        case measure => simp [intOf]; omega
      have HN2 : Hid (nOf p.it part M p.ls[i] = M.getD qn 0) := by show _ = _; unfold nOf; rw [if_neg (by rw [hpt]; decide), HPH.out, hk2, HQN.out]; rfl
      generalize hMq : M.getD qn 0 = nn at *
      by_cases hn0 : nn = 0
      case pos =>
        subst hn0
        have HNO : Hid ((p.ls.take (i + 1)).foldl (inLine p.it (lineOn p.ch day) part a) m0 = M) := by show _ = _; rw [HFT.out]; exact inLine_zero _ _ _ _ _ _ HN2.out
        go_wp2_with fail
        go_roundw
        case rel => exact ⟨i + 1, by omega, by go_num, by rw [HNO.out]; exact hA, hO, B0, BX, hb⟩
        case measure => simp [intOf]; omega
      have hnb : (nn == 0) = false := by simpa using hn0
      have HYY : Hid ((p.ls.take (i + 1)).foldl (inLine p.it (lineOn p.ch day) part a) m0 = M.set a (plusC (M.getD a 0) (timesC nn p.ls[i].2.2.1))) := by show _ = _; rw [HFT.out, inLine_yes _ _ _ _ _ _ HYES.out (by rw [HN2.out]; exact hn0), HN2.out]
      have hT := timesC_bd nn p.ls[i].2.2.1 (by omega)
      have HTB := Lib.hid hT
      generalize hma : M.getD a 0 = mv at *
      have HMA := Lib.hid hma
      clear hma
      go_wp2_with fail
      go_still_tail 22, (by kernel_rfl)
      still_call ((l10Times_any _ _ _ (by omega) (by omega)).mono (fun e w' h => ⟨h.1, h.2.symm⟩))
      repeat still_step
      still_call ((l10Plus_any _ _ _ (by omega) (by omega)).mono (fun e w' h => ⟨h.1, h.2.symm⟩))
      repeat still_step
      refine wpStill_nil ?_
      change wpList _ _ _ _ _ wq.drew
      replace hA := hA.keep (Below.refl wq.heap.size wq).drew
      replace hO := hO.keep (Below.refl wq.heap.size wq).drew
      replace B0 := B0.keep (Below.refl wq.heap.size wq).drew
      replace BX := BX.keep (Below.refl wq.heap.size wq).drew
      replace hb := hb.drew
      clear cA fA cQ cO2 b0 b1 b2 b3 b4 b5 b6 bl l0 l1 l2 l3 l4 l5 hbo t0 t1 t2 hbi
      generalize wq.drew = W8 at *
      obtain ⟨_, _, _, _, _, e9, hbo, l0, l1, l2, l3, l4, l5, _⟩ := bl_at (HQ1.out.keep hb) hlt
      obtain ⟨rfl, rfl⟩ : bo = _ ∧ oo = _ := by simpa using e9
      obtain ⟨b0, b1, b2, b3, b4, b5, b6, bl⟩ := B0.seven
      have cA := hA.cellN hal
      rw [HMA.out] at cA
      have fA := hA.frozen a
      have cO := hO.cell (j := k) (by rw [natI_len]; exact hkl)
      have cO2 : W8.cell? ⟨g7, k, none⟩ = some (.int .i64 (a : Int)) := by rw [cO]; simp [natI, hao]
      clear cO e9
      go_wp2_with fail
      have hNW : w.heap.size ≠ gi := by omega
      go_roundw
      case rel => exact ⟨i + 1, by omega, by go_num, by rw [HYY.out]; exact hA.set a _, hO.far (by show gi ≠ g7; omega), B0.off (by show gi ≠ w.heap.size; omega) _, BX.off (by show gi ≠ NX; omega) _, hb.setCell (p := ⟨gi, a, none⟩) (by show w.heap.size ≤ gi; omega) _⟩
      case measure => simp [intOf]; omega
end Go.Proofs.Ytlkolehdikfddaa
