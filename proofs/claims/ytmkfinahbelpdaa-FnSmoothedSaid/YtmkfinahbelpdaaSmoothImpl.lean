/- The walk of the program's SmoothLoads. -/
import Derived.Test.YtmkfinahbelpdaaSmoothSpec
namespace Go.Proofs.Ytmkfinahbelpdaa
open Go.RowKit
theorem nil_row {α : Type} {F : Flat α} {t : TypeId} (w : World) (lo : Nat) : RowVal F t w lo (.slice none 0 0) [] := ⟨by simp, .inl ⟨rfl, rfl⟩⟩
set_option maxRecDepth 100000 in
set_option maxHeartbeats 4000000 in
theorem implSmoothLoads_any (A C B : Option Addr) (n c n2 c2 m d : Nat) (l : List Ld) (wk : List Int) (ex : List Ex) (q : Int) (w : World) (hl : LoadsIn w A n l) (hok : ∀ x ∈ l, okLd x) (ha : IntsIn w C n2 wk) (hb : ExsIn w B m ex) :
    Calls Try.prog 9 #[.slice A n c, .agg #[.slice C n2 c2, .slice B m d], .int .i64 q] w (PairRowsOf ldF 34 w (smoothLoads l wk ex q)) := by
  have hn := hl.len
  obtain rfl := hl.1
  have hb0 := below_alloc w (.cells #[.slice C n2 c2, .slice B m d] 28)
  have hx0 := boxOf_alloc w #[.slice C n2 c2, .slice B m d] 28
  simp only at hx0
  have hz0 : w.heap.size < (w.alloc (.cells #[.slice C n2 c2, .slice B m d] 28)).heap.size := by simp
  have HO := Lib.hid hok
  clear hok
  cases hm : areMinutes l
  · go_enter Try.func9, Try.ntmps9
    go_wp2_with fail
    generalize w.alloc (.cells #[.slice C n2 c2, .slice B m d] 28) = w1 at *
    refine (implAreMinutes_any _ _ _ l _ (hl.keep hb0) HO.out).mono ?_
    rintro e w2 ⟨rfl, hs⟩
    rw [hm]
    replace hb0 := below_on hb0 hs
    go_wp2_with fail
    go_ret2
    exact pairRowsOf_mk (smoothLoads_no (by rw [hm]; rfl)) (nil_row _ _) hb0
  cases hc : isCal wk ex
  · go_enter Try.func9, Try.ntmps9
    go_wp2_with fail
    generalize w.alloc (.cells #[.slice C n2 c2, .slice B m d] 28) = w1 at *
    refine (implAreMinutes_any _ _ _ l _ (hl.keep hb0) HO.out).mono ?_
    rintro e w2 ⟨rfl, hs⟩
    rw [hm]
    have hs2 := hs
    replace hx0 := hx0.keep hs2
    replace hb0 := below_on hb0 hs2
    obtain ⟨g0, g1, gl⟩ := hx0.two
    clear hs hs2
    go_wp2_with fail
    refine (implIsCalendar_any _ _ _ _ _ _ wk ex _ (ha.keep hb0) (hb.keep hb0)).mono ?_
    rintro e w3 ⟨rfl, hs⟩
    rw [hc]
    replace hb0 := below_on hb0 hs
    go_wp2_with fail
    go_ret2
    exact pairRowsOf_mk (smoothLoads_no (by rw [hm, hc]; rfl)) (nil_row _ _) hb0
  cases hq : inB q 0 20
  · go_enter Try.func9, Try.ntmps9
    go_wp2_with fail
    generalize w.alloc (.cells #[.slice C n2 c2, .slice B m d] 28) = w1 at *
    refine (implAreMinutes_any _ _ _ l _ (hl.keep hb0) HO.out).mono ?_
    rintro e w2 ⟨rfl, hs⟩
    rw [hm]
    have hs2 := hs
    replace hx0 := hx0.keep hs2
    replace hb0 := below_on hb0 hs2
    obtain ⟨g0, g1, gl⟩ := hx0.two
    clear hs hs2
    go_wp2_with fail
    refine (implIsCalendar_any _ _ _ _ _ _ wk ex _ (ha.keep hb0) (hb.keep hb0)).mono ?_
    rintro e w3 ⟨rfl, hs⟩
    rw [hc]
    replace hb0 := below_on hb0 hs
    go_wp2_with fail
    refine (in_any _ _ _ _).mono ?_
    rintro e w4 ⟨rfl, rfl⟩
    rw [hq]
    go_wp2_with fail
    go_ret2
    exact pairRowsOf_mk (smoothLoads_no (by rw [hm, hc, hq]; rfl)) (nil_row _ _) hb0
  have HALL := Lib.hid (smoothLoads_yes (l := l) (wk := wk) (ex := ex) (q := q) (by rw [hm, hc, hq]; rfl))
  have HM := Lib.hid hm
  go_enter Try.func9, Try.ntmps9
  go_wp2_with fail
  generalize w.alloc (.cells #[.slice C n2 c2, .slice B m d] 28) = w1 at *
  refine (implAreMinutes_any _ _ _ l _ (hl.keep hb0) HO.out).mono ?_
  rintro e w2 ⟨rfl, hs⟩
  rw [hm]
  have hs2 := hs
  replace hx0 := hx0.keep hs2
  replace hb0 := below_on hb0 hs2
  obtain ⟨g0, g1, gl⟩ := hx0.two
  clear hs hs2 hz0
  go_wp2_with fail
  refine (implIsCalendar_any _ _ _ _ _ _ wk ex _ (ha.keep hb0) (hb.keep hb0)).mono ?_
  rintro e w3 ⟨rfl, hs⟩
  rw [hc]
  replace hx0 := hx0.keep hs
  replace hb0 := below_on hb0 hs
  clear g0 g1 gl hs
  go_wp2_with fail
  refine (in_any _ _ _ _).mono ?_
  rintro e w4 ⟨rfl, rfl⟩
  rw [hq]
  clear hm hc hq
  have hz3 := hb0.size
  have hx3 := hx0.1
  go_wp2_with (at_make; refine wpList_make_nums rfl _ _ rfl w.heap.size 1000 rfl rfl rfl rfl (by omega) (by omega) ?_; intro w5 hA hA2 hA3)
  replace hx0 := hx0.keep hA2
  replace hb0 := below_on hb0 hA2
  generalize hGg : w3.heap.size = g at *
  clear hA2
  have hlen := (areMinutes_parts HM.out).1
  go_loopw [32] (fun i wr => ∃ k : Nat, k ≤ l.length ∧ i = .int .i64 k ∧ NumRow wr w.heap.size g 1000 1000 (dayRow l k) ∧ BoxOf wr w.heap.size [.slice C n2 c2, .slice B m d] ∧ Below w.heap.size w wr) (fun i _ => l.length - (intOf i).toNat)
  case atStart => exact ⟨0, by omega, rfl, hA, hx0, hb0⟩
  case round =>
    clear hA hx0 hb0
    obtain ⟨k, hk, rfl, hA, hx0, hb0⟩ := hrel
    by_cases hlt : k < l.length
    · obtain ⟨b, o, rfl, hbl, hc0, hc1, hc2⟩ := load_at (hl.keep hb0) hlt
      obtain ⟨y1, y2, y3, y4⟩ := (areMinutes_parts HM.out).2 k hlt
      obtain ⟨dn, hdn⟩ : ∃ dn : Nat, l[k].2.1 = (dn : Int) := ⟨l[k].2.1.toNat, by omega⟩
      have HN : Hid (dayRow l (k + 1) = (dayRow l k).set dn l[k].2.2) := by
        show _ = _
        rw [dayRow_next l k hlt, hdn]; rfl
      rw [hdn] at hc1
      have hd1 : dn < 1000 := by omega
      have hd2 : (dn : Int) < 1000 := by omega
      have hd3 : (0 : Int) ≤ (dn : Int) := by omega
      clear hdn y1 y2
      have hdl : (dayRow l k).length = 1000 := hA.len
      have hs := below_alloc wr (.cells #[.string l[k].1, .int .i64 dn, .int .i64 l[k].2.2] 34)
      have hA1 := hA.keep hs
      have hx1 := hx0.keep hs
      have hb1 := below_on hb0 hs
      have d1 : (wr.alloc (.cells #[.string l[k].1, .int .i64 dn, .int .i64 l[k].2.2] 34)).cell? ⟨wr.heap.size, 1, none⟩ = some (.int .i64 dn) := by simp [go_sem]
      have d2 : (wr.alloc (.cells #[.string l[k].1, .int .i64 dn, .int .i64 l[k].2.2] 34)).cell? ⟨wr.heap.size, 2, none⟩ = some (.int .i64 l[k].2.2) := by simp [go_sem]
      have e0 : (wr.alloc (.cells #[.string l[k].1, .int .i64 dn, .int .i64 l[k].2.2] 34)).cell? ⟨g, dn, none⟩ = some (.int .i64 ((dayRow l k)[dn]'(by omega))) := hA1.cell (by omega)
      have f0 : (wr.alloc (.cells #[.string l[k].1, .int .i64 dn, .int .i64 l[k].2.2] 34)).frozen? ⟨g, dn, none⟩ = false := hA1.frozen dn
      have hbo : Below w.heap.size w ((wr.alloc (.cells #[.string l[k].1, .int .i64 dn, .int .i64 l[k].2.2] 34)).setCell ⟨g, dn, none⟩ (.int .i64 l[k].2.2)) := hb1.setCell (p := ⟨g, dn, none⟩) (by show w.heap.size ≤ g; exact hA1.lt.1) _
      have hA4 : NumRow ((wr.alloc (.cells #[.string l[k].1, .int .i64 dn, .int .i64 l[k].2.2] 34)).setCell ⟨g, dn, none⟩ (.int .i64 l[k].2.2)) w.heap.size g 1000 1000 ((dayRow l k).set dn l[k].2.2) := hA1.set dn l[k].2.2
      have hx4 : BoxOf ((wr.alloc (.cells #[.string l[k].1, .int .i64 dn, .int .i64 l[k].2.2] 34)).setCell ⟨g, dn, none⟩ (.int .i64 l[k].2.2)) w.heap.size [.slice C n2 c2, .slice B m d] := hx1.far (p := ⟨g, dn, none⟩) (by show g ≠ w.heap.size; omega)
      have hgN : g ≠ wr.heap.size := by have := hA.lt; omega
      clear hA hx0 hb0 hA1 hx1 hb1 hs
      go_wp2_with fail
      go_roundw
      case rel => exact ⟨k + 1, by omega, by go_num, by rw [HN.out]; exact hA4, hx4, hbo⟩
      case measure => simp [intOf]; omega
    · obtain rfl : k = l.length := by omega
      go_wp2_with fail
      have hA0 : NumRow wr w.heap.size g 1000 1000 (smRow l wk ex q 0) := hA
      clear hA
      go_loopw [11] (fun i wr => ∃ j : Nat, j ≤ 999 ∧ i = .int .i64 (999 - j : Nat) ∧ NumRow wr w.heap.size g 1000 1000 (smRow l wk ex q j) ∧ BoxOf wr w.heap.size [.slice C n2 c2, .slice B m d] ∧ Below w.heap.size w wr) (fun i _ => (intOf i).toNat)
      case atStart => exact ⟨0, by omega, rfl, hA0, hx0, hb0⟩
      case round =>
        clear hA0 hx0 hb0
        obtain ⟨j, hj, rfl, hA, hx0, hb0⟩ := hrel
        by_cases hj9 : j < 999
        · obtain ⟨dd, hdd⟩ : ∃ dd, 999 - j = dd := ⟨_, rfl⟩
          rw [hdd]
          have hd1 : 1 ≤ dd := by omega
          have hd2 : dd ≤ 999 := by omega
          have hd3 : (0 : Int) ≤ (dd : Int) := by omega
          have hd4 : (dd : Int) < 1000 := by omega
          have HDD := Lib.hid hdd
          clear hdd
          have hok := smRow_ok HM.out wk ex q j (by omega)
          have hrl : (smRow l wk ex q j).length = 1000 := hok.len
          have hb1 := hok.nn dd
          have hb2 := hok.le dd
          have hb3 := hok.nn (dd - 1)
          have hb4 := hok.le (dd - 1)
          obtain ⟨x, hx⟩ : ∃ x : Int, (smRow l wk ex q j).getD dd 0 = x := ⟨_, rfl⟩
          obtain ⟨y, hy⟩ : ∃ y : Int, (smRow l wk ex q j).getD (dd - 1) 0 = y := ⟨_, rfl⟩
          rw [hx] at hb1 hb2
          rw [hy] at hb3 hb4
          have HX := Lib.hid hx
          have HY := Lib.hid hy
          clear hx hy
          have e0 : wr.cell? ⟨g, dd, none⟩ = some (.int .i64 x) := by rw [hA.cell (by omega), ← getD_at _ _ (by omega), HX.out]
          obtain ⟨v1, v2⟩ := minutesOn_bd wk ex q dd
          obtain ⟨ov, hov, hov0, hov1, hov2⟩ : ∃ ov : Int, (if minutesOn wk ex q dd < x then x - minutesOn wk ex q dd else 0) = ov ∧ 0 ≤ ov ∧ ov ≤ x ∧ overD (minutesOn wk ex q) (smRow l wk ex q j) dd = ov := ⟨_, rfl, by split <;> omega, by split <;> omega, by unfold overD; rw [HX.out]; split <;> omega⟩
          have HST : Hid (smRow l wk ex q (j + 1) = ((smRow l wk ex q j).set dd (x - ov)).set (dd - 1) (y + ov)) := by
            show _ = _
            rw [smRow_next, HDD.out, smStep, hov2, HX.out, HY.out]
          clear hov2
          obtain ⟨g0, g1, gl⟩ := hx0.two
          have wr1 : IntKind.i64.wrap (x - minutesOn wk ex q dd) = x - minutesOn wk ex q dd := IntWalk.i64_in _ (by omega)
          go_wp2_with fail
          go_region_held3 (fun w' => w'.cell? ⟨g, dd, none⟩ = some (.int .i64 x) ∧ w'.cell? ⟨w.heap.size, 0, none⟩ = some (.slice C n2 c2) ∧ w'.cell? ⟨w.heap.size, 1, none⟩ = some (.slice B m d) ∧ NumRow w' w.heap.size g 1000 1000 (smRow l wk ex q j) ∧ BoxOf w' w.heap.size [.slice C n2 c2, .slice B m d] ∧ Below w.heap.size w w')
            (first
              | exact ⟨e0, g0, g1, hA.drew, hx0.keep (Below.refl _ _).drew, hb0.drew⟩
              | (go_split_ands; refine ⟨?_, ?_, ?_, ?_, ?_, ?_⟩ <;> with_reducible assumption)
              | (go_split_ands; (have hnr := NumRow.keep (by with_reducible assumption) hbz); (have hbx := BoxOf.keep (by with_reducible assumption) hbz); exact ⟨by rw [hnr.cell (by omega), ← getD_at _ _ (by omega), HX.out], hbx.two.1, hbx.two.2.1, hnr, hbx, below_on (by with_reducible assumption) hbz⟩))
            (first
              | ((with_reducible refine (implMinutesOn_any C B n2 m c2 d wk ex q _ _ (ha.keep ?_) (hb.keep ?_)).mono ?_); (go_split_ands; with_reducible assumption); (go_split_ands; with_reducible assumption); rintro e w9 ⟨rfl, hbz⟩))
          clear wr1
          go_split_ands
          have hA9 : NumRow w9 w.heap.size g 1000 1000 (smRow l wk ex q j) := by with_reducible assumption
          have hx9 : BoxOf w9 w.heap.size [.slice C n2 c2, .slice B m d] := by with_reducible assumption
          have hb9 : Below w.heap.size w w9 := by with_reducible assumption
          have e9 : w9.cell? ⟨g, dd, none⟩ = some (.int .i64 x) := by with_reducible assumption
          have f9 : w9.frozen? ⟨g, dd, none⟩ = false := hA9.frozen dd
          have hA10 := hA9.set dd (x - ov)
          have hlen10 : ((smRow l wk ex q j).set dd (x - ov)).length = 1000 := by rw [List.length_set]; exact hrl
          have e10 : (w9.setCell ⟨g, dd, none⟩ (.int .i64 (x - ov))).cell? ⟨g, dd - 1, none⟩ = some (.int .i64 y) := by rw [hA10.cell (by omega), ← getD_at _ _ (by omega), getD_set _ _ _ _ (by omega), if_neg (by omega), HY.out]
          have f10 : (w9.setCell ⟨g, dd, none⟩ (.int .i64 (x - ov))).frozen? ⟨g, dd - 1, none⟩ = false := hA10.frozen (dd - 1)
          have hA11 := hA10.set (dd - 1) (y + ov)
          have hgw := hA9.lt.1
          have hgn : g ≠ w.heap.size := by omega
          have hx11 := (hx9.far (p := ⟨g, dd, none⟩) (v := .int .i64 (x - ov)) hgn).far (p := ⟨g, dd - 1, none⟩) (v := .int .i64 (y + ov)) hgn
          have hb11 := (hb9.setCell (p := ⟨g, dd, none⟩) (by show w.heap.size ≤ g; exact hgw) (.int .i64 (x - ov))).setCell (p := ⟨g, dd - 1, none⟩) (by show w.heap.size ≤ g; exact hgw) (.int .i64 (y + ov))
          have i1 : (0 : Int) ≤ (dd : Int) - 1 := by omega
          have i2 : (dd : Int) - 1 < 1000 := by omega
          have i3 : ((dd : Int) - 1).toNat = dd - 1 := by omega
          clear hA9 hA10 hx9 hb9 hrl hlen10
          go_wp2_with fail
          go_roundw
          case rel => exact ⟨j + 1, by omega, by rw [← HDD.out]; exact congrArg (Value.int .i64) (by omega), by rw [HST.out]; exact hA11, hx11, hb11⟩
          case measure => have := HDD.out; simp [intOf]; omega
        · obtain rfl : j = 999 := by omega
          rw [show ((999 - 999 : Nat) : Int) = 0 from rfl]
          have hok := smRow_ok HM.out wk ex q 999 (by omega)
          have hrl : (smRow l wk ex q 999).length = 1000 := hok.len
          have HOK := Lib.hid hok
          clear hok hx0
          obtain ⟨wb, rfl⟩ : ∃ W, W = wr := ⟨wr, rfl⟩
          have hwz := hb0.size
          have hbo := below_alloc wb (.cells #[] 34)
          have hro : RowVal ldF 34 (wb.alloc (.cells #[] 34)) wb.heap.size (.slice (some ⟨wb.heap.size, 0, none⟩) 0 0) [] := empty_row rfl (Nat.le_refl _)
          go_wp2_with fail
          go_loopw [13, 75] (fun v i wr => ∃ k : Nat, k ≤ 1000 ∧ i = .int .i64 k ∧ RowVal ldF 34 wr wb.heap.size v (outTo (l.headD ldNone).1 (smRow l wk ex q 999) k) ∧ Below wb.heap.size wb wr) (fun _ i _ => 1000 - (intOf i).toNat)
          case atStart => exact ⟨0, by omega, rfl, hro, hbo⟩
          case round =>
            clear hro hbo
            obtain ⟨k, hk, rfl, hro, hbo⟩ := hrel
            by_cases hlt : k < 1000
            · have hlt3 : (k : Int) < 1000 := by omega
              have hlt4 : (0 : Int) ≤ (k : Int) := by omega
              obtain ⟨x, hx⟩ : ∃ x : Int, (smRow l wk ex q 999).getD k 0 = x := ⟨_, rfl⟩
              have HX := Lib.hid hx
              clear hx
              have hx0 : 0 ≤ x := by rw [← HX.out]; exact HOK.out.nn k
              have hx1 : x ≤ 1000000000000 := by rw [← HX.out]; have := HOK.out.le k; omega
              have e0 : wr.cell? ⟨g, k, none⟩ = some (.int .i64 x) := by rw [(hA.keep hbo).cell (by omega), ← getD_at _ _ (by omega), HX.out]
              by_cases hxp : 0 < x
              · have hpos : 0 < l.length := by
                  rcases Nat.eq_zero_or_pos l.length with h0 | h0
                  · have h1 : l = [] := List.eq_nil_of_length_eq_zero h0
                    have h2 := HX.out
                    rw [h1, smRow_nil wk ex q 999 k (by omega)] at h2
                    omega
                  · exact h0
                have hpos2 : (0 : Int) < (l.length : Int) := by omega
                have hx2 : ¬ x = 0 := by omega
                have hx3 : (x != 0) = true := by rw [bne_iff_ne]; exact hx2
                obtain ⟨b, o, rfl, hbl, hc0, _, _⟩ := load_at (hl.keep (below_on hb0 hbo)) hpos
                rw [Nat.zero_mul, Nat.add_zero] at hc0
                have hhd : l[0].1 = (l.headD ldNone).1 := by
                  cases l with
                  | nil => simp at hpos
                  | cons a t => rfl
                rw [hhd] at hc0
                clear hhd
                have HNX : Hid (outTo (l.headD ldNone).1 (smRow l wk ex q 999) (k + 1) = outTo (l.headD ldNone).1 (smRow l wk ex q 999) k ++ [((l.headD ldNone).1, (k : Int), x)]) := by
                  show _ = _
                  simp only [outTo]; rw [HX.out, if_pos hxp]
                have hll := outTo_len (l.headD ldNone).1 (smRow l wk ex q 999) k
                generalize outTo (l.headD ldNone).1 (smRow l wk ex q 999) k = L at *
                generalize (l.headD ldNone).1 = cc at *
                have hz := hbo.size
                go_wp2_with (at_builtin; refine wpList_append_at loadElem rfl _ _ rfl rfl hro (by omega) (cc, (k : Int), x) #[.string cc, .int .i64 k, .int .i64 x] rfl (fun u hu => ldOne (cc, (k : Int), x) u hu) wr.heap.size _ rfl rfl hz ?_; intro v9 w9 hr9 hbl9 _ _ _)
                have HB9 := hbo.trans (hbl9 wb.heap.size (Nat.le_refl _) hz)
                go_roundw
                case rel => exact ⟨k + 1, by omega, by go_num, by rw [HNX.out]; exact hr9, HB9⟩
                case measure => simp [intOf]; omega
              · have HNX : Hid (outTo (l.headD ldNone).1 (smRow l wk ex q 999) (k + 1) = outTo (l.headD ldNone).1 (smRow l wk ex q 999) k) := by
                  show _ = _
                  simp only [outTo]; rw [HX.out, if_neg hxp]
                obtain rfl : x = 0 := by omega
                go_wp2_with fail
                go_roundw
                case rel => exact ⟨k + 1, by omega, by go_num, by rw [HNX.out]; exact hro, hbo⟩
                case measure => simp [intOf]; omega
            · obtain rfl : k = 1000 := by omega
              go_wp2_with fail
              go_ret2
              exact pairRowsOf_mk HALL.out (hro.lower_ hwz) (below_on hb0 hbo)
end Go.Proofs.Ytmkfinahbelpdaa
