/- The walks of IsLotting. -/
import Derived.Test.YtdofhdelcendeaaLotRule
import Derived.Test.YtdofhdelcendeaaSpare
namespace Go.Proofs.Ytdofhdelcendeaa
open Go.RowKit
def lotBad (rule size : Int) (l : List Fl) (k : Nat) : Bool :=
  ((rule == 1) && ((l.getD k (0, 0)).2.tmod size != 0)) || ((rule == 2) && (decide (0 < k) && decide ((l.getD k (0, 0)).1 < (l.getD (k - 1) (0, 0)).1 + size)))
def isLotting (needs lots : List Fl) (rule size : Int) : Bool :=
  (lotRule rule size && (areFlows needs && areFlows lots)) && (((List.range needs.length).all fun k => decide (0 ≤ spareOn needs lots (needs.getD k (0, 0)).1)) && ((List.range lots.length).all fun k => !lotBad rule size lots k))
theorem lotRule_size {r s : Int} (h : lotRule r s = true) (h2 : ((r == 1) || (r == 2)) = true) : 1 ≤ s ∧ s ≤ 1000 := by
  unfold lotRule at h
  simp only [Bool.or_eq_true, Bool.and_eq_true, beq_iff_eq, inB_iff] at h h2
  omega
theorem isLotting_no {needs lots : List Fl} {rule size : Int} (h : (lotRule rule size && (areFlows needs && areFlows lots)) = false) : isLotting needs lots rule size = false := by unfold isLotting; rw [h]; rfl
theorem isLotting_spare {needs lots : List Fl} {rule size : Int} {k : Nat} (hk : k < needs.length) (h : spareOn needs lots needs[k].1 < 0) : isLotting needs lots rule size = false := by
  unfold isLotting
  have : ((List.range needs.length).all fun k => decide (0 ≤ spareOn needs lots (needs.getD k (0, 0)).1)) = false := by
    rw [List.all_eq_false]
    exact ⟨k, by simpa using hk, by rw [getD_at _ _ _ hk]; simp; omega⟩
  rw [this, Bool.false_and, Bool.and_false]
theorem isLotting_bad {needs lots : List Fl} {rule size : Int} {k : Nat} (hk : k < lots.length) (h : lotBad rule size lots k = true) : isLotting needs lots rule size = false := by
  unfold isLotting
  have : ((List.range lots.length).all fun k => !lotBad rule size lots k) = false := by
    rw [List.all_eq_false]
    exact ⟨k, by simpa using hk, by simp [h]⟩
  rw [this, Bool.and_false, Bool.and_false]
theorem isLotting_yes {needs lots : List Fl} {rule size : Int} (h1 : lotRule rule size = true) (h2 : areFlows needs = true) (h3 : areFlows lots = true) (h4 : ∀ k (hk : k < needs.length), 0 ≤ spareOn needs lots needs[k].1)
    (h5 : ∀ k < lots.length, lotBad rule size lots k = false) : isLotting needs lots rule size = true := by
  unfold isLotting
  have e1 : ((List.range needs.length).all fun k => decide (0 ≤ spareOn needs lots (needs.getD k (0, 0)).1)) = true := by
    rw [List.all_eq_true]
    intro k hk
    rw [List.mem_range] at hk
    rw [getD_at _ _ _ hk]
    exact decide_eq_true (h4 k hk)
  have e2 : ((List.range lots.length).all fun k => !lotBad rule size lots k) = true := by
    rw [List.all_eq_true]
    intro k hk
    rw [List.mem_range] at hk
    rw [h5 k hk]; rfl
  rw [h1, h2, h3, e1, e2]; rfl
set_option maxRecDepth 100000 in
set_option maxHeartbeats 4000000 in
theorem specIsLotting_any (A B : Option Addr) (n m c c2 : Nat) (needs lots : List Fl) (rule size : Int) (w : World) (ha : FlowsIn w A n needs) (hm : FlowsIn w B m lots) :
    Calls Try.prog 52 #[.int .i64 rule, .int .i64 size, .slice A n c, .slice B m c2] w fun e w' => e = .returned (.bool (isLotting needs lots rule size)) ∧ Drew w w' := by
  have hn1 := ha.len
  have hn2 := hm.len
  obtain rfl := ha.1
  obtain rfl := hm.1
  have hb : Drew w w := Drew.refl _
  go_enter Try.func52, Try.ntmps52
  go_wp2_with fail
  refine (l15Rule_any _ _ _).mono ?_
  rintro e v ⟨rfl, rfl⟩
  cases g1 : lotRule rule size
  · go_wp2_with fail
    go_ret
    exact ⟨ret_bool (isLotting_no (by simp [g1])).symm, hb⟩
  go_wp2_with fail
  refine (specAreFlows_any _ _ _ needs _ (ha.keep (hb.below _))).mono ?_
  rintro e u2 ⟨rfl, hs⟩
  replace hb := hb.trans hs
  clear hs
  cases g2 : areFlows needs
  · go_wp2_with fail
    go_ret
    exact ⟨ret_bool (isLotting_no (by simp [g2])).symm, hb⟩
  go_wp2_with fail
  refine (specAreFlows_any _ _ _ lots _ (hm.keep (hb.below _))).mono ?_
  rintro e u3 ⟨rfl, hs⟩
  replace hb := hb.trans hs
  clear hs
  cases g3 : areFlows lots
  · go_wp2_with fail
    go_ret
    exact ⟨ret_bool (isLotting_no (by simp [g3])).symm, hb⟩
  go_wp2_with fail
  go_loopw [9] (fun i wr => ∃ k : Nat, k ≤ needs.length ∧ i = .int .i64 k ∧ Hid (∀ j (hj : j < needs.length), j < k → 0 ≤ spareOn needs lots needs[j].1) ∧ Drew w wr) (fun i _ => needs.length - (intOf i).toNat)
  case atStart => exact ⟨0, by omega, rfl, fun j _ h => absurd h (by omega), hb⟩
  case round =>
    obtain ⟨k, hk, rfl, HI, HR⟩ := hrel
    clear hb
    by_cases hlt : k < needs.length
    · obtain ⟨b, o, rfl, _, hc1, hc2⟩ := flow_at (ha.keep (HR.below _)) hlt
      
      by_cases hneg : spareOn needs lots needs[k].1 < 0
      · go_wp2_with fail
        refine (specSpareOn_any _ _ _ _ _ _ needs lots _ _ (ha.keep (HR.below _)) (hm.keep (HR.below _))).mono ?_
        rintro e v ⟨rfl, hs⟩
        have HR2 := HR.trans hs
        go_wp2_with fail
        go_ret
        exact ⟨ret_bool (isLotting_spare hlt hneg).symm, HR2⟩
      · go_wp2_with fail
        refine (specSpareOn_any _ _ _ _ _ _ needs lots _ _ (ha.keep (HR.below _)) (hm.keep (HR.below _))).mono ?_
        rintro e v ⟨rfl, hs⟩
        have HR2 := HR.trans hs
        go_wp2_with fail
        go_roundw
        case rel =>
          refine ⟨k + 1, by omega, by go_num, ?_, HR2⟩
          intro j hj hjk
          rcases Nat.lt_or_ge j k with h3 | h3
          · exact HI.out j hj h3
          · obtain rfl : j = k := by omega
            omega
        case measure => simp [intOf]; omega
    obtain rfl : k = needs.length := by omega
    have HS := Lib.hid (fun (j : Nat) (hj : j < needs.length) => HI.out j hj hj)
    clear HI
    go_wp2_with fail
    go_loopw [10] (fun i wr => ∃ k : Nat, k ≤ lots.length ∧ i = .int .i64 k ∧ Hid (∀ j < k, lotBad rule size lots j = false) ∧ Drew w wr) (fun i _ => lots.length - (intOf i).toNat)
    case atStart => exact ⟨0, by omega, rfl, fun j h => absurd h (by omega), HR⟩
    case round =>
      clear HR
      obtain ⟨k, hk, rfl, HI, HR⟩ := hrel
      by_cases hlt : k < lots.length
      · have HX : Hid (lotBad rule size lots k = false → ∀ j < k + 1, lotBad rule size lots j = false) := fun hb j hj => by
          rcases Nat.lt_or_ge j k with h1 | h1
          · exact HI.out j h1
          · rw [show j = k by omega]; exact hb
        obtain ⟨b, o, rfl, hbb, hc1, hc2⟩ := flow_at (hm.keep (HR.below _)) hlt
        have HG : Hid (lots.getD k (0, 0) = lots[k]) := getD_at _ _ _ hlt
        obtain ⟨⟨d1, d2⟩, d3, d4⟩ := areFlows_mem g3 lots[k] (List.getElem_mem hlt)
        cases r1 : (rule == 1)
        · cases r2 : (rule == 2)
          · go_wp2
            go_quiet (fail)
            go_wp2
            go_roundw
            case rel => exact ⟨k + 1, by omega, by go_num, HX.out (by unfold lotBad; rw [r1, r2]; rfl), HR.more _⟩
            case measure => simp [intOf]; omega
          have hs1 := lotRule_size g1 (by rw [r1, r2]; rfl)
          obtain ⟨sz1, sz2⟩ := hs1
          by_cases h0 : k = 0
          · have hz1 : decide (0 < k) = false := by simp; omega
            have hz2 : decide ((0 : Int) < (k : Int)) = false := by simp; omega
            have H0 := Lib.hid h0; clear h0
            go_wp2
            go_quiet (fail)
            go_wp2
            go_roundw
            case rel => exact ⟨k + 1, by omega, by go_num, HX.out (by unfold lotBad; rw [r1, r2, hz1]; rfl), HR.more _⟩
            case measure => simp [intOf]; omega
          have hlt2 : k - 1 < lots.length := by omega
          obtain ⟨b2, o2, e2, _, hc3, _⟩ := flow_at (hm.keep (HR.below _)) hlt2
          obtain ⟨rfl, rfl⟩ : b = b2 ∧ o = o2 := by simpa using e2
          obtain ⟨⟨f1, f2⟩, _, _⟩ := areFlows_mem g3 lots[k - 1] (List.getElem_mem hlt2)
          have HG2 : Hid (lots.getD (k - 1) (0, 0) = lots[k - 1]) := getD_at _ _ _ hlt2
          have hz1 : decide (0 < k) = true := by simp; omega
          have hz2 : decide ((0 : Int) < (k : Int)) = true := by simp; omega
          have hi1 : (0 : Int) ≤ (k : Int) - 1 := by omega
          have hi2 : (k : Int) - 1 < (lots.length : Int) := by omega
          have hi3 : ((k : Int) - 1).toNat = k - 1 := by omega
          have hwr : IntKind.i64.wrap (lots[k - 1].1 + size) = lots[k - 1].1 + size := IntWalk.i64_in _ (by omega)
          by_cases hge : lots[k].1 < lots[k - 1].1 + size
          · have hz3 : decide (lots[k].1 < lots[k - 1].1 + size) = true := by simp; omega
            go_wp2
            go_quiet (fail)
            go_wp2
            go_ret
            exact ⟨ret_bool (isLotting_bad hlt (by unfold lotBad; rw [HG.out, HG2.out, r1, r2, hz1, decide_eq_true hge]; rfl)).symm, HR.more _⟩
          · have hz3 : decide (lots[k].1 < lots[k - 1].1 + size) = false := by simp; omega
            go_wp2
            go_quiet (fail)
            go_wp2
            clear hwr
            go_roundw
            case rel => exact ⟨k + 1, by omega, by go_num, HX.out (by unfold lotBad; rw [HG.out, HG2.out, r1, r2, hz1, decide_eq_false (by omega)]; rfl), HR.more _⟩
            case measure => simp [intOf]; omega
        have r2 : (rule == 2) = false := by rw [beq_iff_eq] at r1; rw [beq_eq_false_iff_ne]; omega
        have hs1 := lotRule_size g1 (by rw [r1]; rfl)
        obtain ⟨sz1, sz2⟩ := hs1
        have hs0 : (size == 0) = false := by rw [beq_eq_false_iff_ne]; omega
        have hmod : lots[k].2.tmod size = lots[k].2 % size := Int.tmod_eq_emod_of_nonneg (by omega)
        have HM := Lib.hid hmod
        clear hmod
        cases hm1 : (lots[k].2.tmod size == 0)
        · have hm2 : (lots[k].2 % size == 0) = false := by rw [← HM.out]; exact hm1
          have hm3 : (lots[k].2 % size != 0) = true := by unfold bne; rw [hm2]; rfl
          have hm4 : (lots[k].2.tmod size != 0) = true := by unfold bne; rw [hm1]; rfl
          go_wp2
          go_quiet (fail)
          go_wp2
          go_ret
          exact ⟨ret_bool (isLotting_bad hlt (by unfold lotBad; rw [HG.out, r1, hm4]; rfl)).symm, HR.more _⟩
        · have hm2 : (lots[k].2 % size == 0) = true := by rw [← HM.out]; exact hm1
          have hm3 : (lots[k].2 % size != 0) = false := by unfold bne; rw [hm2]; rfl
          have hm4 : (lots[k].2.tmod size != 0) = false := by unfold bne; rw [hm1]; rfl
          go_wp2
          go_quiet (fail)
          go_wp2
          go_roundw
          case rel => exact ⟨k + 1, by omega, by go_num, HX.out (by unfold lotBad; rw [HG.out, r1, hm4, r2]; rfl), HR.more _⟩
          case measure => simp [intOf]; omega
      · obtain rfl : k = lots.length := by omega
        go_wp2
        go_ret
        exact ⟨ret_bool (isLotting_yes g1 g2 g3 HS.out HI.out).symm, HR⟩
set_option maxRecDepth 100000 in
set_option maxHeartbeats 4000000 in
theorem implIsLotting_any (A B : Option Addr) (n m c c2 : Nat) (needs lots : List Fl) (rule size : Int) (w : World) (ha : FlowsIn w A n needs) (hm : FlowsIn w B m lots) :
    Calls Try.prog 51 #[.int .i64 rule, .int .i64 size, .slice A n c, .slice B m c2] w fun e w' => e = .returned (.bool (isLotting needs lots rule size)) ∧ Below w.heap.size w w' := by
  have hn1 := ha.len
  have hn2 := hm.len
  obtain rfl := ha.1
  obtain rfl := hm.1
  have hb : Below w.heap.size w w := Below.refl _ _
  go_enter Try.func51, Try.ntmps51
  go_wp2_with fail
  refine (isLotRule_any _ _ _).mono ?_
  rintro e v ⟨rfl, rfl⟩
  cases g1 : lotRule rule size
  · go_wp2_with fail
    go_ret
    exact ⟨ret_bool (isLotting_no (by simp [g1])).symm, hb⟩
  go_wp2_with fail
  refine (implAreFlows_any _ _ _ needs _ (ha.keep hb)).mono ?_
  rintro e u2 ⟨rfl, hs⟩
  replace hb := below_on hb hs
  clear hs
  cases g2 : areFlows needs
  · go_wp2_with fail
    go_ret
    exact ⟨ret_bool (isLotting_no (by simp [g2])).symm, hb⟩
  go_wp2_with fail
  refine (implAreFlows_any _ _ _ lots _ (hm.keep hb)).mono ?_
  rintro e u3 ⟨rfl, hs⟩
  replace hb := below_on hb hs
  clear hs
  cases g3 : areFlows lots
  · go_wp2_with fail
    go_ret
    exact ⟨ret_bool (isLotting_no (by simp [g3])).symm, hb⟩
  go_wp2_with fail
  go_loopw [29] (fun i wr => ∃ k : Nat, k ≤ needs.length ∧ i = .int .i64 k ∧ Hid (∀ j (hj : j < needs.length), j < k → 0 ≤ spareOn needs lots needs[j].1) ∧ Below w.heap.size w wr) (fun i _ => needs.length - (intOf i).toNat)
  case atStart => exact ⟨0, by omega, rfl, fun j _ h => absurd h (by omega), hb⟩
  case round =>
    obtain ⟨k, hk, rfl, HI, HR⟩ := hrel
    clear hb
    by_cases hlt : k < needs.length
    · obtain ⟨b, o, rfl, _, hc1, hc2⟩ := flow_at (ha.keep HR) hlt
      have hsz := HR.size
      have HA := HR.alloc hsz (.cells #[.int .i64 needs[k].1, .int .i64 needs[k].2] 51)
      by_cases hneg : spareOn needs lots needs[k].1 < 0
      · go_wp2_with fail
        refine (implSpareOn_any _ _ _ _ _ _ needs lots _ _ (ha.keep HA) (hm.keep HA)).mono ?_
        rintro e v ⟨rfl, hs⟩
        have HR2 := below_on HA hs
        go_wp2_with fail
        go_ret
        exact ⟨ret_bool (isLotting_spare hlt hneg).symm, HR2⟩
      · go_wp2_with fail
        refine (implSpareOn_any _ _ _ _ _ _ needs lots _ _ (ha.keep HA) (hm.keep HA)).mono ?_
        rintro e v ⟨rfl, hs⟩
        have HR2 := below_on HA hs
        go_wp2_with fail
        go_roundw
        case rel =>
          refine ⟨k + 1, by omega, by go_num, ?_, HR2⟩
          intro j hj hjk
          rcases Nat.lt_or_ge j k with h3 | h3
          · exact HI.out j hj h3
          · obtain rfl : j = k := by omega
            omega
        case measure => simp [intOf]; omega
    obtain rfl : k = needs.length := by omega
    have HS := Lib.hid (fun (j : Nat) (hj : j < needs.length) => HI.out j hj hj)
    clear HI
    go_wp2_with fail
    go_loopw [42] (fun i wr => ∃ k : Nat, k ≤ lots.length ∧ i = .int .i64 k ∧ Hid (∀ j < k, lotBad rule size lots j = false) ∧ Below w.heap.size w wr) (fun i _ => lots.length - (intOf i).toNat)
    case atStart => exact ⟨0, by omega, rfl, fun j h => absurd h (by omega), HR⟩
    case round =>
      clear HR
      obtain ⟨k, hk, rfl, HI, HR⟩ := hrel
      by_cases hlt : k < lots.length
      · have HX : Hid (lotBad rule size lots k = false → ∀ j < k + 1, lotBad rule size lots j = false) := fun hb j hj => by
          rcases Nat.lt_or_ge j k with h1 | h1
          · exact HI.out j h1
          · rw [show j = k by omega]; exact hb
        obtain ⟨b, o, rfl, hbb, hc1, hc2⟩ := flow_at (hm.keep HR) hlt
        have HG : Hid (lots.getD k (0, 0) = lots[k]) := getD_at _ _ _ hlt
        obtain ⟨⟨d1, d2⟩, d3, d4⟩ := areFlows_mem g3 lots[k] (List.getElem_mem hlt)
        have hsz := HR.size
        have HA := HR.alloc hsz (.cells #[.int .i64 lots[k].1, .int .i64 lots[k].2] 51)
        cases r1 : (rule == 1)
        · cases r2 : (rule == 2)
          · go_wp2
            go_quiet (fail)
            go_wp2
            go_roundw
            case rel => exact ⟨k + 1, by omega, by go_num, HX.out (by unfold lotBad; rw [r1, r2]; rfl), below_drewN HA _⟩
            case measure => simp [intOf]; omega
          have hs1 := lotRule_size g1 (by rw [r1, r2]; rfl)
          obtain ⟨sz1, sz2⟩ := hs1
          by_cases h0 : k = 0
          · have hz1 : decide (0 < k) = false := by simp; omega
            have hz2 : decide ((0 : Int) < (k : Int)) = false := by simp; omega
            have H0 := Lib.hid h0; clear h0
            go_wp2
            go_quiet (fail)
            go_wp2
            go_roundw
            case rel => exact ⟨k + 1, by omega, by go_num, HX.out (by unfold lotBad; rw [r1, r2, hz1]; rfl), below_drewN HA _⟩
            case measure => simp [intOf]; omega
          have hlt2 : k - 1 < lots.length := by omega
          obtain ⟨b2, o2, e2, _, hc3, _⟩ := flow_at (hm.keep HR) hlt2
          obtain ⟨rfl, rfl⟩ : b = b2 ∧ o = o2 := by simpa using e2
          have hc4 := World.cell?_alloc_lt wr (.cells #[.int .i64 lots[k].1, .int .i64 lots[k].2] 51) ⟨b, o + (k - 1) * 2, none⟩ hbb
          rw [hc3] at hc4
          obtain ⟨⟨f1, f2⟩, _, _⟩ := areFlows_mem g3 lots[k - 1] (List.getElem_mem hlt2)
          have HG2 : Hid (lots.getD (k - 1) (0, 0) = lots[k - 1]) := getD_at _ _ _ hlt2
          have hz1 : decide (0 < k) = true := by simp; omega
          have hz2 : decide ((0 : Int) < (k : Int)) = true := by simp; omega
          have hi1 : (0 : Int) ≤ (k : Int) - 1 := by omega
          have hi2 : (k : Int) - 1 < (lots.length : Int) := by omega
          have hi3 : ((k : Int) - 1).toNat = k - 1 := by omega
          have hwr : IntKind.i64.wrap (lots[k].1 - lots[k - 1].1) = lots[k].1 - lots[k - 1].1 := IntWalk.i64_in _ (by omega)
          by_cases hge : lots[k].1 < lots[k - 1].1 + size
          · have hz3 : decide (lots[k].1 - lots[k - 1].1 < size) = true := by simp; omega
            go_wp2
            go_quiet (fail)
            go_wp2
            go_ret
            exact ⟨ret_bool (isLotting_bad hlt (by unfold lotBad; rw [HG.out, HG2.out, r1, r2, hz1, decide_eq_true hge]; rfl)).symm, below_drewN HA _⟩
          · have hz3 : decide (lots[k].1 - lots[k - 1].1 < size) = false := by simp; omega
            go_wp2
            go_quiet (fail)
            go_wp2
            clear hwr
            go_roundw
            case rel => exact ⟨k + 1, by omega, by go_num, HX.out (by unfold lotBad; rw [HG.out, HG2.out, r1, r2, hz1, decide_eq_false (by omega)]; rfl), below_drewN HA _⟩
            case measure => simp [intOf]; omega
        have r2 : (rule == 2) = false := by rw [beq_iff_eq] at r1; rw [beq_eq_false_iff_ne]; omega
        have hs1 := lotRule_size g1 (by rw [r1]; rfl)
        obtain ⟨sz1, sz2⟩ := hs1
        have hs0 : (size == 0) = false := by rw [beq_eq_false_iff_ne]; omega
        have hmod : lots[k].2.tmod size = lots[k].2 % size := Int.tmod_eq_emod_of_nonneg (by omega)
        have HM := Lib.hid hmod
        clear hmod
        cases hm1 : (lots[k].2.tmod size == 0)
        · have hm2 : (lots[k].2 % size == 0) = false := by rw [← HM.out]; exact hm1
          have hm3 : (lots[k].2 % size != 0) = true := by unfold bne; rw [hm2]; rfl
          have hm4 : (lots[k].2.tmod size != 0) = true := by unfold bne; rw [hm1]; rfl
          go_wp2
          go_quiet (fail)
          go_wp2
          go_ret
          exact ⟨ret_bool (isLotting_bad hlt (by unfold lotBad; rw [HG.out, r1, hm4]; rfl)).symm, below_drewN HA _⟩
        · have hm2 : (lots[k].2 % size == 0) = true := by rw [← HM.out]; exact hm1
          have hm3 : (lots[k].2 % size != 0) = false := by unfold bne; rw [hm2]; rfl
          have hm4 : (lots[k].2.tmod size != 0) = false := by unfold bne; rw [hm1]; rfl
          go_wp2
          go_quiet (fail)
          go_wp2
          go_roundw
          case rel => exact ⟨k + 1, by omega, by go_num, HX.out (by unfold lotBad; rw [HG.out, r1, hm4, r2]; rfl), below_drewN HA _⟩
          case measure => simp [intOf]; omega
      · obtain rfl : k = lots.length := by omega
        go_wp2
        go_ret
        exact ⟨ret_bool (isLotting_yes g1 g2 g3 HS.out HI.out).symm, HR⟩
end Go.Proofs.Ytdofhdelcendeaa
