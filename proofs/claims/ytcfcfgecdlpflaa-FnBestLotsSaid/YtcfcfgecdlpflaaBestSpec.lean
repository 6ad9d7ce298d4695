/- The walk of the reference's BestLots. -/
import Derived.Test.YtcfcfgecdlpflaaBestImpl
import Derived.Test.YtcfcfgecdlpflaaPartSpec
namespace Go.Proofs.Ytcfcfgecdlpflaa
open Go.RowKit

theorem holdN_bd {needs : List Int} {s h : Int} (hn : ∀ x ∈ needs, 0 ≤ x ∧ x ≤ 1000) (hs : 0 ≤ s ∧ s ≤ 10000) (hh : 0 ≤ h ∧ h ≤ 10000) (a d : Nat) (hd : d ≤ 10) : 0 ≤ holdN needs h a d ∧ holdN needs h a d ≤ 1000000000 := by
  have := lotC_le hn hs hh a d hd; omega
theorem seg_pos {needs : List Int} (hn : ∀ x ∈ needs, 0 ≤ x ∧ x ≤ 1000) (a b : Nat) (hab : a ≤ b) (hb : b ≤ needs.length) (h10 : needs.length ≤ 10) : 0 ≤ seg needs a b ∧ seg needs a b ≤ 10000 := by
  have h1 := sumN_mono needs (fun x hx => (hn x hx).1) a b hab
  have h2 := sumN_bd hn b hb
  have h3 := sumN_bd hn a (by omega)
  unfold seg; omega
set_option maxRecDepth 100000 in
set_option maxHeartbeats 4000000 in
theorem specBestLots_any (A : Option Addr) (n c : Nat) (needs : List Int) (s h : Int) (w : World) (ha : IntsIn w A n needs) (hcap : needs.length ≤ c) :
    Calls Try.prog 21 #[.slice A n c, .int .i64 s, .int .i64 h] w (TripleInts w (bestLots needs s h)) := by
  have hln := ha.len
  obtain rfl := ha.1
  cases hp : arePeriods needs s h
  · go_enter Try.func21, Try.ntmps21
    go_wp2_with (go_at_call 59; refine (specArePeriods_any _ _ _ needs _ _ _ ha).mono ?_; rintro e w' ⟨rfl, rfl⟩)
    go_ret3
    exact tripleInts_mk (bestLots_no hp) rfl (numRow_nil w w.heap.size (Nat.le_refl _)) ((Below.refl _ _).alloc (Nat.le_refl _) _)
  obtain ⟨p1, p2, ⟨p3, p4⟩, ⟨p5, p6⟩⟩ := arePeriods_parts hp
  have hx := fun i (hi : i < needs.length) => (bestN_facts needs s h p3 p5 (fun x hx => (p1 x hx).1) needs.length i hi).2
  have HX := Lib.hid hx; clear hx
  have HP := Lib.hid p1; clear p1
  have HY := Lib.hid (bestLots_yes hp)
  have e1 : ((needs.length : Int) + 1) = ((needs.length + 1 : Nat) : Int) := by omega
  have HE1 := Lib.hid e1; clear e1
  go_enter Try.func21, Try.ntmps21
  go_wp2_with (first
    | (go_at_call 59; refine (specArePeriods_any _ _ _ needs _ _ _ ha).mono ?_; rintro e w' ⟨rfl, rfl⟩)
    | (at_make; refine wpList_make_nums rfl (.tmp 28) (.tmp 28) rfl w.heap.size (needs.length + 1) rfl rfl HE1.out HE1.out (by omega) (Nat.le_refl _) ?_; intro w1 hA hA2 hA3)
    | (at_make; refine wpList_make_nums rfl (.tmp 31) (.tmp 31) rfl w.heap.size (needs.length + 1) rfl rfl HE1.out HE1.out (by omega) (Nat.le_of_lt hA3) ?_; intro w2 hB hB2 hB3))
  clear hp
  replace hA := hA.keep hB2
  have hbb := below_on hA2 hB2
  have hn1 : ¬ w1.heap.size = w.heap.size := by omega
  have hn2 : ¬ w.heap.size = w1.heap.size := by omega
  rw [← rowB_zero needs s h needs.length] at hA
  rw [← rowX_zero needs s h needs.length] at hB
  generalize hg2 : w1.heap.size = g2 at *
  clear hA2 hB2
  go_loopw [12] (fun i wr => ∃ d : Nat, d ≤ needs.length ∧ i = .int .i64 ((needs.length : Int) - 1 - d) ∧ NumRow wr w.heap.size w.heap.size (needs.length + 1) (needs.length + 1) (rowB needs s h needs.length d) ∧ NumRow wr w.heap.size g2 (needs.length + 1) (needs.length + 1) (rowX needs s h needs.length d) ∧ Below w.heap.size w wr) (fun i _ => ((intOf i) + 1).toNat)
  case atStart => exact ⟨0, by omega, congrArg (Value.int .i64) (by omega), hA, hB, hbb⟩
  case round =>
    clear hA hB hbb
    obtain ⟨d, hd, hi, hA, hB, HR⟩ := hrel
    by_cases hlt : d < needs.length
    · obtain ⟨i, hid⟩ : ∃ i, i = needs.length - (d + 1) := ⟨_, rfl⟩
      have e : ((needs.length : Int) - 1 - d) = (i : Int) := by omega
      rw [e] at hi
      subst hi
      have hin : i < needs.length := by omega
      have HD : Hid (needs.length - (d + 1) = i) := hid.symm
      have HI : Hid (i + (d + 1) = needs.length) := by show i + (d + 1) = needs.length; omega
      clear e hid
      obtain ⟨b, o, rfl, hbl, hz0⟩ := (ha.keep HR).at_ hin
      clear hz0
      have f1 := hA.frozen i
      have c1 := hA.cellD (j := i) (by rw [rowB_len _ _ _ _ _ hd]; omega)
      have hs0 := hA.set i (-1)
      have hrs := rowB_start needs s h needs.length d hlt
      rw [HD.out] at hrs
      rw [hrs] at hs0
      rw [rowX_start needs s h needs.length d hlt] at hB
      have hB0 := hB.far (p := ⟨w.heap.size, i, none⟩) (v := .int .i64 (-1)) hn2
      have HR0 : Below w.heap.size w (wr.setCell ⟨w.heap.size, i, none⟩ (.int .i64 (-1))) := HR.setCell (Nat.le_refl _) _
      clear hrs hA hB
      go_wp2_with fail
      generalize wr.setCell ⟨w.heap.size, i, none⟩ (.int .i64 (-1)) = wq at *
      clear f1 c1
      go_loopw [13, 14, 15] (fun kp sm t wr => ∃ k : Nat, i < k ∧ k ≤ needs.length + 1 ∧ t = .int .i64 k ∧ kp = .int .i64 (holdN needs h i (k - (i + 1))) ∧ sm = .int .i64 (seg needs i (k - 1)) ∧ NumRow wr w.heap.size w.heap.size (needs.length + 1) (needs.length + 1) (midB needs s h needs.length d (k - (i + 1))) ∧ NumRow wr w.heap.size g2 (needs.length + 1) (needs.length + 1) (midX needs s h needs.length d (k - (i + 1))) ∧ Below w.heap.size w wr) (fun _ _ t _ => needs.length + 1 - (intOf t).toNat)
      case atStart => exact ⟨i + 1, by omega, by omega, by go_num, by rw [Nat.sub_self]; rfl, by rw [Nat.add_sub_cancel]; simp [seg], by rw [Nat.sub_self]; exact hs0, by rw [Nat.sub_self]; exact hB0, HR0⟩
      case round =>
        clear hs0 hB0 HR0
        obtain ⟨k, hik, hkn, rfl, rfl, rfl, hA, hB, HR⟩ := hrel
        by_cases hlt2 : k ≤ needs.length
        · have hm : i + 1 + (k - (i + 1)) = k := by omega
          have HM := Lib.hid hm; clear hm
          have cB := hA.cellD (j := i) (by rw [midB_len _ _ _ _ _ _ hlt]; omega)
          have cK := hA.cellD (j := k) (by rw [midB_len _ _ _ _ _ _ hlt]; omega)
          have cX := hB.cellD (j := i) (by rw [midX_len _ _ _ _ _ _ hlt]; omega)
          obtain ⟨b', o', e0, _, cN⟩ := (ha.keep HR).at_ (k := k - 1) (by omega)
          obtain ⟨rfl, rfl⟩ : b = b' ∧ o = o' := by simpa using e0
          clear e0
          obtain ⟨y1, y2⟩ := HP.out _ (List.getElem_mem (show k - 1 < needs.length by omega))
          have fB := hA.frozen i
          have fX := hB.frozen i
          have e1 := midB_at needs s h needs.length d (k - (i + 1))
          have e2 := midB_far needs s h needs.length d (k - (i + 1)) (k - (i + 1))
          have hmt := mid_take needs s h needs.length d (k - (i + 1))
          have hms := mid_skip needs s h needs.length d (k - (i + 1))
          obtain ⟨q1, q2⟩ := pick_bd HP.out ⟨p3, p4⟩ ⟨p5, p6⟩ needs.length p2 d hlt (k - (i + 1)) (by have := HI.out; omega)
          obtain ⟨t1, t2⟩ := tbl_bd HP.out ⟨p3, p4⟩ ⟨p5, p6⟩ needs.length p2 d hd (k - (i + 1)) (by have := HI.out; omega)
          obtain ⟨h1, h2⟩ := holdN_bd HP.out ⟨p3, p4⟩ ⟨p5, p6⟩ i (k - (i + 1)) (by omega)
          obtain ⟨h3, h4⟩ := holdN_bd HP.out ⟨p3, p4⟩ ⟨p5, p6⟩ i (k + 1 - (i + 1)) (by omega)
          obtain ⟨s1, s2⟩ := seg_pos HP.out i (k - 1) (by omega) (by omega) p2
          obtain ⟨s3, s4⟩ := seg_pos HP.out i k (by omega) (by omega) p2
          have hgk : needs.getD (k - 1) 0 = needs[k - 1] := getD_cell (by omega)
          have eH : holdN needs h i (k + 1 - (i + 1)) = holdN needs h i (k - (i + 1)) + h * needs[k - 1] * ((k : Int) - 1 - i) := by
            rw [show k + 1 - (i + 1) = (k - (i + 1)) + 1 by omega]
            simp only [holdN]
            rw [show i + (k - (i + 1)) = k - 1 by omega, hgk, show ((k - (i + 1) : Nat) : Int) = (k : Int) - 1 - i by omega]
          have eS : seg needs i (k + 1 - 1) = seg needs i (k - 1) + needs[k - 1] := by
            rw [Nat.add_sub_cancel, ← hgk]
            obtain ⟨k', rfl⟩ : ∃ k', k = k' + 1 := ⟨k - 1, by omega⟩
            simp only [seg, sumN, Nat.add_sub_cancel]; omega
          have eC : lotC needs s h i k = (holdN needs h i (k - (i + 1)) + h * needs[k - 1] * ((k : Int) - 1 - i)) + if 0 < seg needs i (k - 1) + needs[k - 1] then s else 0 := by
            unfold lotC
            rw [← eS, ← eH, Nat.add_sub_cancel, show k + 1 - (i + 1) = k - i by omega]
          rw [HD.out] at e1 e2 hmt hms q1 q2
          rw [HM.out] at e2 hmt hms
          rw [e1] at cB
          rw [e2] at cK
          clear e1 e2 hgk
          have hd10 : d ≤ 10 := by omega
          rw [eH] at h3 h4
          rw [Nat.add_sub_cancel] at eS
          rw [eS] at s3 s4
          generalize ((tbl needs s h needs.length d).getD (k - (i + 1)) (0, 0)).1 = tv at *
          generalize (pickTo needs s h i (tbl needs s h needs.length d) (k - (i + 1))).1 = pv at *
          generalize (midX needs s h needs.length d (k - (i + 1))).getD i 0 = xv at *
          have HT := hmt _ rfl
          have HS := hms _ rfl
          clear hmt hms
          rw [eC, show k - (i + 1) + 1 = k + 1 - (i + 1) by omega] at HT HS
          clear eC
          have HH := Lib.hid eH
          have HSS := Lib.hid eS
          clear eH eS
          obtain ⟨m1, m2⟩ := mul_bd p5 p6 y1 y2
          obtain ⟨m3, m4⟩ := mul_bd m1 m2 (show 0 ≤ (k : Int) - 1 - i by omega) (show (k : Int) - 1 - i ≤ 10 by omega)
          have j0 : (0 : Int) ≤ (k : Int) - 1 := by omega
          by_cases hsum : 0 < seg needs i (k - 1) + needs[k - 1]
          · rw [if_pos hsum] at HT HS
            rw [show ∀ a b c : Int, a + b + c = a + c + b from fun a b c => by omega] at HT HS
            replace HT := Lib.hid HT
            replace HS := Lib.hid HS
            by_cases hp1 : pv < 0
            · obtain ⟨z1, z2⟩ := HT.out (.inl hp1)
              have M1 := Lib.hid z1
              have M2 := Lib.hid z2
              clear z1 z2 HT HS
              go_wp2
              go_roundw
              case rel =>
                refine ⟨k + 1, by omega, by omega, by go_num, by rw [HH.out], by rw [Nat.add_sub_cancel, HSS.out], ?_, ?_, (HR.setCell (Nat.le_refl _) _).setCell (Nat.le_of_lt hA3) _⟩
                · rw [← M1.out]; exact (hA.set i _).far hn1
                · rw [← M2.out]; exact (hB.far hn2).set i _
              case measure => simp [intOf]; omega
            · by_cases hp2 : holdN needs h i (k - (i + 1)) + h * needs[k - 1] * ((k : Int) - 1 - i) + tv + s < pv
              · obtain ⟨z1, z2⟩ := HT.out (.inr hp2)
                have M1 := Lib.hid z1
                have M2 := Lib.hid z2
                clear z1 z2 HT HS
                go_wp2
                go_roundw
                case rel =>
                  refine ⟨k + 1, by omega, by omega, by go_num, by rw [HH.out], by rw [Nat.add_sub_cancel, HSS.out], ?_, ?_, (HR.setCell (Nat.le_refl _) _).setCell (Nat.le_of_lt hA3) _⟩
                  · rw [← M1.out]; exact (hA.set i _).far hn1
                  · rw [← M2.out]; exact (hB.far hn2).set i _
                case measure => simp [intOf]; omega
              · obtain ⟨z1, z2⟩ := HS.out (by omega)
                have M1 := Lib.hid z1
                have M2 := Lib.hid z2
                clear z1 z2 HT HS
                go_wp2
                go_roundw
                case rel =>
                  exact ⟨k + 1, by omega, by omega, by go_num, by rw [HH.out], by rw [Nat.add_sub_cancel, HSS.out], by rw [← M1.out]; exact hA, by rw [← M2.out]; exact hB, HR⟩
                case measure => simp [intOf]; omega
          · rw [if_neg hsum, Int.add_zero] at HT HS
            replace HT := Lib.hid HT
            replace HS := Lib.hid HS
            by_cases hp1 : pv < 0
            · obtain ⟨z1, z2⟩ := HT.out (.inl hp1)
              have M1 := Lib.hid z1
              have M2 := Lib.hid z2
              clear z1 z2 HT HS
              go_wp2
              go_roundw
              case rel =>
                refine ⟨k + 1, by omega, by omega, by go_num, by rw [HH.out], by rw [Nat.add_sub_cancel, HSS.out], ?_, ?_, (HR.setCell (Nat.le_refl _) _).setCell (Nat.le_of_lt hA3) _⟩
                · rw [← M1.out]; exact (hA.set i _).far hn1
                · rw [← M2.out]; exact (hB.far hn2).set i _
              case measure => simp [intOf]; omega
            · by_cases hp2 : holdN needs h i (k - (i + 1)) + h * needs[k - 1] * ((k : Int) - 1 - i) + tv < pv
              · obtain ⟨z1, z2⟩ := HT.out (.inr hp2)
                have M1 := Lib.hid z1
                have M2 := Lib.hid z2
                clear z1 z2 HT HS
                go_wp2
                go_roundw
                case rel =>
                  refine ⟨k + 1, by omega, by omega, by go_num, by rw [HH.out], by rw [Nat.add_sub_cancel, HSS.out], ?_, ?_, (HR.setCell (Nat.le_refl _) _).setCell (Nat.le_of_lt hA3) _⟩
                  · rw [← M1.out]; exact (hA.set i _).far hn1
                  · rw [← M2.out]; exact (hB.far hn2).set i _
                case measure => simp [intOf]; omega
              · obtain ⟨z1, z2⟩ := HS.out (by omega)
                have M1 := Lib.hid z1
                have M2 := Lib.hid z2
                clear z1 z2 HT HS
                go_wp2
                go_roundw
                case rel =>
                  exact ⟨k + 1, by omega, by omega, by go_num, by rw [HH.out], by rw [Nat.add_sub_cancel, HSS.out], by rw [← M1.out]; exact hA, by rw [← M2.out]; exact hB, HR⟩
                case measure => simp [intOf]; omega
        · obtain rfl : k = needs.length + 1 := by omega
          have hk1 : needs.length + 1 - (i + 1) = d + 1 := by have := HI.out; omega
          rw [hk1, midB_end] at hA
          rw [hk1, midX_end] at hB
          clear hk1
          go_wp2
          go_roundw
          case rel => exact ⟨d + 1, by omega, congrArg (Value.int .i64) (by have := HI.out; omega), hA, hB, HR⟩
          case measure => simp [intOf] <;> omega
    · obtain rfl : d = needs.length := by omega
      have e : ((needs.length : Int) - 1 - needs.length) = -1 := by omega
      rw [e] at hi
      subst hi
      clear e
      have hsz := HR.size
      have l1 := (own_lt hA.2 _ rfl).2
      have l2 := (own_lt hB.2 _ rfl).2
      simp only at l1 l2
      have hC := numRow_nil wr wr.heap.size (Nat.le_refl _)
      have hC2 : Below wr.heap.size wr (wr.alloc (.cells #[] 3)) := (Below.refl _ _).alloc (Nat.le_refl _) _
      replace hA := hA.keep hC2
      replace hB := hB.keep hC2
      replace HR := below_on HR hC2
      have hz9 : wr.heap.size < (wr.alloc (.cells #[] 3)).heap.size := by simp
      go_wp2_with fail
      generalize wr.alloc (.cells #[] 3) = wq at *
      generalize hg3' : wr.heap.size = g3 at *
      have hqz := Nat.le_of_lt hz9
      have hg9 : w.heap.size ≤ g3 := hsz
      clear hC2
      go_loopw [17, 18] (fun st t wr => ∃ k g cg : Nat, t = .int .i64 ((chain needs s h needs.length k).2 : Int) ∧ st = .slice (some ⟨g, 0, none⟩) (chain needs s h needs.length k).1.length cg ∧ NumRow wr g3 g (chain needs s h needs.length k).1.length cg ((chain needs s h needs.length k).1.map Int.ofNat) ∧ NumRow wr w.heap.size w.heap.size (needs.length + 1) (needs.length + 1) (rowB needs s h needs.length needs.length) ∧ NumRow wr w.heap.size g2 (needs.length + 1) (needs.length + 1) (rowX needs s h needs.length needs.length) ∧ g3 ≤ wr.heap.size ∧ Below w.heap.size w wr) (fun _ t _ => needs.length - (intOf t).toNat)
      case atStart => exact ⟨0, _, _, rfl, rfl, hC, hA, hB, hqz, HR⟩
      case round =>
        clear hA hB hC HR hqz
        obtain ⟨k, g, cg, rfl, rfl, hC, hA, hB, hqz, HR⟩ := hrel
        have hxx := fun i hi => (show i < nextN needs s h needs.length i ∧ nextN needs s h needs.length i ≤ needs.length from ⟨(HX.out i hi).1, (HX.out i hi).2.1⟩)
        obtain ⟨ck1, ck2, ck3, ck4, ck5⟩ := chain_ok hxx k
        by_cases hlt : (chain needs s h needs.length k).2 < needs.length
        · obtain ⟨x1, x2⟩ := hxx _ hlt
          have hll : ((chain needs s h needs.length k).1.map Int.ofNat).length ≤ 16777216 := by
            have h1 := hC.1
            have h2 : (chain needs s h needs.length k).1.length ≤ (chain needs s h needs.length k).2 := ups_len ck3 ck2
            simp; omega
          have HC : Hid (chain needs s h needs.length (k + 1) = ((chain needs s h needs.length k).1 ++ [(chain needs s h needs.length k).2], nextN needs s h needs.length (chain needs s h needs.length k).2)) := by
            show chain needs s h needs.length (k + 1) = _
            simp only [chain]; rw [if_pos hlt]
          have cX := hB.cellD (j := (chain needs s h needs.length k).2) (by rw [rowX_len _ _ _ _ _ (Nat.le_refl _)]; omega)
          rw [rowX_all _ _ _ _ _ (by omega)] at cX
          clear ck2 ck3 ck4 ck5 hxx ck1
          generalize (chain needs s h needs.length k).2 = i at *
          generalize (chain needs s h needs.length k).1 = SS at *
          generalize nextN needs s h needs.length i = x at *
          go_wp2_with (at_builtin; refine wpList_append_num rfl _ _ rfl rfl hC hll (i : Int) (wr.heap.size) _ rfl rfl hqz ?_; intro g' c' w9 hnum2 hbl2 hgr2; have hb9 := hbl2 g3 (Nat.le_refl _) hqz; have cX9 := (hb9.cell (p := ⟨g2, i, none⟩) l2).trans cX)
          go_round
          case rel =>
            refine ⟨k + 1, g', c', ?_, ?_, ?_, hA.keepB hb9 l1, hB.keepB hb9 l2, by omega, HR.trans (hb9.mono hg9)⟩
            · rw [HC.out]
            · rw [HC.out]; simp
            · rw [HC.out]; simpa using hnum2
          case measure => simp [intOf]; omega
        · have hce := chain_end hxx hlt
          have hcn : (chain needs s h needs.length k).2 = needs.length := by omega
          have HCN := Lib.hid hcn
          rw [hce] at hC ck3 hcn
          have ckm := fun i hi => (show i < needs.length by have := (chain_ok hxx needs.length).mem i hi; omega)
          have hll : ((chain needs s h needs.length needs.length).1.map Int.ofNat).length ≤ 16777216 := by
            have h2 : (chain needs s h needs.length needs.length).1.length ≤ needs.length := (chain_ok hxx needs.length).len
            simp; omega
          have hb0 := hA.cellD (j := 0) (by rw [rowB_len _ _ _ _ _ (Nat.le_refl _)]; omega)
          rw [rowB_all _ _ _ _ _ (Nat.zero_le _)] at hb0
          clear ck1 ck2 ck4 ck5 hxx
          rw [HCN.out, hce]
          clear hlt hce hcn
          have HM := Lib.hid ckm
          clear ckm
          have l3 := (own_lt hA.2 _ rfl).2
          simp only at l3
          go_wp2_with fail
          go_region_with (go_at_call 60; refine (specLots16_any _ _ _ _ _ _ needs _ _ (ha.keep HR.drew) (hC.drew.ints hll) hcap HP.out p2 ck3 HM.out).mono ?_; rintro e w' ⟨g5, rfl, hr, hb5⟩; have hb9 := (hb5.cell (p := ⟨w.heap.size, 0, none⟩) l3).trans hb0)
          all_goals
            go_wp2_with fail
            go_ret3
            exact tripleInts_mk HY.out rfl (OwnInts.lower (show OwnInts _ _ _ _ _ _ from hr) HR.size) (below_on HR.drew hb5)
end Go.Proofs.Ytcfcfgecdlpflaa
