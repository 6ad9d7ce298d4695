/- The walk of the reference's PartPeriod. -/
import Derived.Test.YtcfcfgecdlpflaaLots16
namespace Go.Proofs.Ytcfcfgecdlpflaa
open Go.RowKit

theorem numRow_nil (w : World) (lo : Nat) (h : lo ≤ w.heap.size) : NumRow (w.alloc (.cells #[] 3)) lo w.heap.size 0 0 [] := ⟨rfl, empty_own w lo _ 1 h⟩
set_option maxRecDepth 100000 in
set_option maxHeartbeats 2000000 in
theorem specPartPeriod_any (A : Option Addr) (n c : Nat) (needs : List Int) (s h : Int) (w : World) (ha : IntsIn w A n needs) (hcap : needs.length ≤ c) :
    Calls Try.prog 15 #[.slice A n c, .int .i64 s, .int .i64 h] w (PairInts w (partPeriod needs s h)) := by
  have hln := ha.len
  obtain rfl := ha.1
  cases hp : arePeriods needs s h
  · go_enter Try.func15, Try.ntmps15
    go_wp2_with (go_at_call 59; refine (specArePeriods_any _ _ _ needs _ _ _ ha).mono ?_; rintro e w' ⟨rfl, rfl⟩)
    go_ret2
    exact pairInts_mk (partPeriod_no hp) (numRow_nil w w.heap.size (Nat.le_refl _)) ((Below.refl _ _).alloc (Nat.le_refl _) _)
  obtain ⟨p1, p2, ⟨p3, p4⟩, ⟨p5, p6⟩⟩ := arePeriods_parts hp
  have HP := Lib.hid p1; clear p1
  have HY := Lib.hid (partPeriod_yes hp)
  have h0 := numRow_nil w w.heap.size (Nat.le_refl _)
  have b0 : Below w.heap.size w (w.alloc (.cells #[] 3)) := (Below.refl _ _).alloc (Nat.le_refl _) _
  go_enter Try.func15, Try.ntmps15
  go_wp2_with (go_at_call 59; refine (specArePeriods_any _ _ _ needs _ _ _ ha).mono ?_; rintro e w' ⟨rfl, rfl⟩)
  clear hp
  go_loopw [8, 9, 10] (fun st co i wr => ∃ k g cg : Nat, k ≤ needs.length ∧ i = .int .i64 k ∧ st = .slice (some ⟨g, 0, none⟩) (partTo needs s h k).1.length cg ∧ co = .int .i64 (partTo needs s h k).2 ∧ NumRow wr w.heap.size g (partTo needs s h k).1.length cg ((partTo needs s h k).1.map Int.ofNat) ∧ Below w.heap.size w wr) (fun _ _ i _ => needs.length - (intOf i).toNat)
  case atStart => exact ⟨0, _, _, by omega, rfl, rfl, rfl, h0, b0⟩
  case round =>
    clear h0 b0
    obtain ⟨k, g, cg, hk, rfl, rfl, rfl, hA, HR⟩ := hrel
    by_cases hlt : k < needs.length
    · have hsz := HR.size
      have hll := partTo_len needs s h k
      have hln2 : ((partTo needs s h k).1.map Int.ofNat).length ≤ 16777216 := by simp; omega
      by_cases hz : (partTo needs s h k).1.length = 0
      · have hnx : partTo needs s h (k + 1) = ((partTo needs s h k).1 ++ [k], 0) := by
          show partStep needs s h (partTo needs s h k) k = _
          unfold partStep; rw [if_pos hz]
        have hz1 : ((partTo needs s h k).1.length : Int) = 0 := by omega
        have HX := Lib.hid hnx; clear hnx
        have HZ := Lib.hid hz; clear hz
        go_wp2_with (at_builtin; refine wpList_append_num rfl _ _ rfl rfl hA hln2 (k : Int) (wr.heap.size) _ rfl rfl hsz ?_; intro g' c' w2 hnum2 hbl2 hgr2)
        go_round
        case rel =>
          refine ⟨k + 1, g', c', by omega, by go_num, by rw [HX.out]; simp, by rw [HX.out], ?_, ?_⟩
          · rw [HX.out]
            simpa using hnum2
          · exact HR.trans (hbl2 _ (Nat.le_refl _) hsz)
        case measure => simp [intOf]; omega
      · obtain ⟨b, o, rfl, hbl, hcell⟩ := (ha.keep HR).at_ hlt
        obtain ⟨y1, y2⟩ := HP.out _ (List.getElem_mem hlt)
        have hgd : needs.getD k 0 = needs[k] := by rw [List.getD_eq_getElem?_getD, List.getElem?_eq_getElem hlt]; rfl
        obtain ⟨z1, z2⟩ := partTo_cost (fun x hx => (HP.out x hx).1) p3 p5 k hk
        have hl1 := part_last needs s h k
        have hc1 : wr.cell? ⟨g, (partTo needs s h k).1.length - 1, none⟩ = some (.int .i64 (lastOf (partTo needs s h k).1 : Int)) := by
          have := hA.cell (j := (partTo needs s h k).1.length - 1) (by simp; omega)
          rw [List.getElem_map] at this
          unfold lastOf
          rw [List.getD_eq_getElem?_getD, List.getElem?_eq_getElem (show (partTo needs s h k).1.length - 1 < _ by omega)]
          exact this
        have hnx : partTo needs s h (k + 1) = if s < (partTo needs s h k).2 + h * needs[k] * ((k : Int) - (lastOf (partTo needs s h k).1 : Int)) then ((partTo needs s h k).1 ++ [k], 0) else ((partTo needs s h k).1, (partTo needs s h k).2 + h * needs[k] * ((k : Int) - (lastOf (partTo needs s h k).1 : Int))) := by
          show partStep needs s h (partTo needs s h k) k = _
          unfold partStep; rw [if_neg hz, hgd]
        obtain ⟨m1, m2⟩ := mul_bd p5 p6 y1 y2
        obtain ⟨m3, m4⟩ := mul_bd m1 m2 (show 0 ≤ (k : Int) - (lastOf (partTo needs s h k).1 : Int) by omega) (show (k : Int) - (lastOf (partTo needs s h k).1 : Int) ≤ 10 by omega)
        clear hgd
        have HX := Lib.hid hnx; clear hnx
        generalize lastOf (partTo needs s h k).1 = t at *
        generalize (partTo needs s h k).2 = co at *
        generalize (partTo needs s h k).1 = S at *
        have hpos : 0 < S.length := by omega
        have w1 : IntKind.i64.wrap (h * needs[k]) = h * needs[k] := IntWalk.i64_in _ (by omega)
        have w2 : IntKind.i64.wrap ((k : Int) - (t : Int)) = (k : Int) - (t : Int) := IntWalk.i64_in _ (by omega)
        have w3 : IntKind.i64.wrap (h * needs[k] * ((k : Int) - (t : Int))) = h * needs[k] * ((k : Int) - (t : Int)) := IntWalk.i64_in _ (by omega)
        have w4 : IntKind.i64.wrap (co + h * needs[k] * ((k : Int) - (t : Int))) = co + h * needs[k] * ((k : Int) - (t : Int)) := IntWalk.i64_in _ (by omega)
        have w5 : IntKind.i64.wrap ((S.length : Int) - 1) = (S.length : Int) - 1 := IntWalk.i64_in _ (by omega)
        go_wp2_with fail
        go_quiet (fail)
        clear w1 w2 w3 w4 w5
        have hz0 : ¬ ((S.length : Int) = 0) := by omega
        by_cases hc : s < co + h * needs[k] * ((k : Int) - (t : Int))
        · rw [if_pos hc] at HX
          go_wp2_with (at_builtin; refine wpList_append_num rfl _ _ rfl rfl (hA.drewN _) hln2 (k : Int) (wr.heap.size) _ rfl rfl hsz ?_; intro g' c' w2 hnum2 hbl2 hgr2)
          go_round
          case rel =>
            refine ⟨k + 1, g', c', by omega, by go_num, by rw [HX.out]; simp, by rw [HX.out], ?_, ?_⟩
            · rw [HX.out]
              simpa using hnum2
            · exact (below_drewN HR _).trans (hbl2 _ (Nat.le_refl _) hsz)
          case measure => simp [intOf]; omega
        · rw [if_neg hc] at HX
          go_wp2
          go_round
          case rel =>
            exact ⟨k + 1, g, cg, by omega, by go_num, by rw [HX.out], by rw [HX.out], by rw [HX.out]; exact hA.drewN _, below_drewN HR _⟩
          case measure => simp [intOf]; omega
    · obtain rfl : k = needs.length := by omega
      have hsz := HR.size
      go_wp2_with (go_at_call 60; refine (specLots16_any _ _ _ _ _ _ needs _ _ (ha.keep HR) (hA.ints (by have := hA.1; have := partTo_len needs s h needs.length; simp; omega)) hcap HP.out p2 (partTo_ups _ _ _ _) (partTo_mem _ _ _ _)).mono ?_; rintro e w' ⟨g2, rfl, hr, hb2⟩)
      go_ret2
      exact pairInts_mk HY.out (OwnInts.lower (show OwnInts _ _ _ _ _ _ from hr) hsz) (below_on HR hb2)
end Go.Proofs.Ytcfcfgecdlpflaa
