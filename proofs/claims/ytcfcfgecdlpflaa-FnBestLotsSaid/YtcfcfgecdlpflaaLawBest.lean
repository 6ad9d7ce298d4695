/- The walk of the law FnBestLots: for every input it returns true, and no memory that was there is written. -/
import Derived.Test.YtcfcfgecdlpflaaBestLaw
import Derived.Test.YtcfcfgecdlpflaaBestSpec
import Derived.Test.YtcfcfgecdlpflaaDrawBest
import Derived.Test.YtcfcfgecdlpflaaBytesCore
namespace Go.Proofs.Ytcfcfgecdlpflaa
open Go.RowKit
theorem lots_cost {l : List Int} {s h : Int} (hp : arePeriods l s h = true) (S : List Nat) (hu : Ups S) (hm : ∀ i ∈ S, i < l.length) (h0 : S.headD l.length = 0) : lotCost l (lots16 l S l.length S.length) s h = (costE l s h S l.length, true) := by
  obtain ⟨p1, p2, ⟨p3, p4⟩, ⟨p5, p6⟩⟩ := arePeriods_parts hp
  obtain ⟨c1, c2⟩ := lots16_cost l s h (fun x hx => (p1 x hx).1) S hu hm h0
  rw [lotCost_yes hp (lots16_len _ _ _ _) (fun j hj => inB_iff.2 (lots16_in l p1 p2 S hu hm S.length (Nat.le_refl _) _ (List.getElem_mem hj))) c2, c1]
theorem best_cost {l : List Int} {s h : Int} (hp : arePeriods l s h = true) : lotCost l (lots16 l (chain l s h l.length l.length).1 l.length (chain l s h l.length l.length).1.length) s h = (bestN l s h l.length 0, true) := by
  obtain ⟨p1, p2, ⟨p3, p4⟩, ⟨p5, p6⟩⟩ := arePeriods_parts hp
  have hx : ∀ i, i < l.length → i < nextN l s h l.length i ∧ nextN l s h l.length i ≤ l.length := fun i hi => by
    have := bestN_facts l s h p3 p5 (fun x hx => (p1 x hx).1) l.length i hi
    exact ⟨this.2.1, this.2.2.1⟩
  obtain ⟨k1, k2, k3, k4, k5⟩ := chain_ok hx l.length
  have he : (chain l s h l.length l.length).2 = l.length := by omega
  have hh : (chain l s h l.length l.length).1.headD l.length = 0 := by
    rcases Nat.eq_zero_or_pos l.length with h0 | h0
    · rw [h0]; rfl
    · exact chain_head l s h l.length l.length h0 h0 _
  rw [lots_cost hp _ k3 (fun i hi => by have := k2 i hi; omega) hh]
  have := chain_cost l s h p3 p5 (fun x hx => (p1 x hx).1) l.length l.length
  rw [he, bestN_end] at this
  rw [← this, Int.add_zero]
theorem part_cost {l : List Int} {s h : Int} (hp : arePeriods l s h = true) : ∃ d, lotCost l (lots16 l (partTo l s h l.length).1 l.length (partTo l s h l.length).1.length) s h = (d, true) ∧ bestN l s h l.length 0 ≤ d := by
  obtain ⟨p1, p2, ⟨p3, p4⟩, ⟨p5, p6⟩⟩ := arePeriods_parts hp
  have hh : (partTo l s h l.length).1.headD l.length = 0 := by
    rw [partTo_head]; split <;> omega
  refine ⟨_, lots_cost hp _ (partTo_ups _ _ _ _) (partTo_mem _ _ _ _) hh, ?_⟩
  have := costE_ge l s h p3 p5 (fun x hx => (p1 x hx).1) l.length _ (partTo_ups l s h l.length) (partTo_mem l s h l.length)
  rw [hh] at this; exact this
theorem mask_cost {l : List Int} {s h : Int} (hp : arePeriods l s h = true) (b : Nat → Bool) : ∃ d, lotCost l (lots16 l (maskTo b l.length) l.length (maskTo b l.length).length) s h = (d, true) ∧ bestN l s h l.length 0 ≤ d := by
  obtain ⟨p1, p2, ⟨p3, p4⟩, ⟨p5, p6⟩⟩ := arePeriods_parts hp
  obtain ⟨m1, m2, m3, m4⟩ := maskTo_ok b l.length
  have hh : (maskTo b l.length).headD l.length = 0 := by rw [m4]; split <;> omega
  refine ⟨_, lots_cost hp _ m1 m2 hh, ?_⟩
  have := costE_ge l s h p3 p5 (fun x hx => (p1 x hx).1) l.length _ m1 m2
  rw [hh] at this; exact this
def maskB (m : Nat) (k : Nat) : Bool := (bits BinOp.and IntKind.i64 ((m : Int) / 2 ^ k) 1 == 1)
theorem pow_bd (n : Nat) (h : n ≤ 8) : (1 : Int) ≤ 2 ^ n ∧ (2 : Int) ^ n ≤ 256 := by
  have : n = 0 ∨ n = 1 ∨ n = 2 ∨ n = 3 ∨ n = 4 ∨ n = 5 ∨ n = 6 ∨ n = 7 ∨ n = 8 := by omega
  rcases this with h | h | h | h | h | h | h | h | h <;> subst h <;> decide
set_option maxRecDepth 100000 in
set_option maxHeartbeats 4000000 in
theorem lawBest {w : World} (A : Option Addr) (n c : Nat) (l : List Int) (hl : n ≤ 1048576 → RowsIn byteF w A n l ∧ ∀ x ∈ l, okByte x) (hn : n ≤ 9223372036854775807) :
    Calls Try.prog 5 #[.slice A n c] w fun e w' => e = .returned (.bool true) ∧ Below w.heap.size w w' := by
  by_cases big : 1048576 < n
  · go_enter Try.func5, Try.ntmps5
    go_wp2_with fail
    refine (big_yes _ _ _ _ big hn).mono ?_
    rintro e w1 ⟨rfl, rfl⟩
    go_wp2_with fail
    go_ret
    exact ⟨rfl, Below.refl _ _⟩
  obtain ⟨hi, hok⟩ := hl (by omega)
  have hby := bytesAt_of hi hok
  clear hl hi hok l
  go_enter Try.func5, Try.ntmps5
  go_wp2_with fail
  refine (big_no _ _ _ _ big).mono ?_
  rintro e w1 ⟨rfl, rfl⟩
  go_wp2_with fail
  refine (DrawBestLots_any _ _ _ _ hby).mono ?_
  rintro e w1 ⟨l, s, h, g1, c1, rfl, hlc, hl8, hr, hb⟩
  have hi : IntsIn w1 (some ⟨g1, 0, none⟩) l.length l := OwnInts.ints (show OwnInts _ _ _ _ _ _ from hr) (by omega)
  clear hby hr big
  go_wp2_with fail
  refine (implBestLots_any _ _ _ l s h _ hi hlc).mono ?_
  rintro e w2 ⟨A2, C2, rfl, o2, hs⟩
  replace hi := hi.keep hs
  replace hb := below_on hb hs
  have r2 := o2.ints (bestLots_len l s h (by omega))
  clear hs o2
  go_wp2_with fail
  refine (specBestLots_any _ _ _ l s h _ hi hlc).mono ?_
  rintro e w3 ⟨A3, C3, rfl, _, hs⟩
  replace hi := hi.keep hs
  replace hb := below_on hb hs
  replace r2 := r2.keep hs
  clear hs
  go_wp2_with fail
  refine (implPartPeriod_any _ _ _ l s h _ hi).mono ?_
  rintro e w4 ⟨A4, C4, rfl, o4, hs⟩
  replace hi := hi.keep hs
  replace hb := below_on hb hs
  replace r2 := r2.keep hs
  have r4 := o4.ints (partPeriod_len l s h (by omega))
  clear hs o4
  cases hp : arePeriods l s h
  · rw [bestLots_no hp, partPeriod_no hp]
    go_wp2_with fail
    go_ret
    exact ⟨rfl, hb⟩
  have e1 := bestLots_yes hp
  have e2 := partPeriod_yes hp
  have e3 := best_cost hp
  obtain ⟨d, e4, hge⟩ := part_cost hp
  have e5 := fun b => mask_cost hp b
  rw [e1] at r2 ⊢
  rw [e2] at r4 ⊢
  clear e1 e2
  dsimp only at r2 r4 ⊢
  obtain ⟨p1, p2, ⟨p3, p4⟩, ⟨p5, p6⟩⟩ := arePeriods_parts hp
  have HP := Lib.hid p1
  have HM := Lib.hid e5
  clear p1 e5
  have hll := lots16_len l (chain l s h l.length l.length).1 l.length (chain l s h l.length l.length).1.length
  generalize lots16 l (chain l s h l.length l.length).1 l.length (chain l s h l.length l.length).1.length = m2 at *
  generalize lots16 l (partTo l s h l.length).1 l.length (partTo l s h l.length).1.length = m4 at *
  generalize bestN l s h l.length 0 = bc at *
  have E3 := Lib.hid e3
  have E4 := Lib.hid e4
  have HPP := Lib.hid hp
  clear e3 e4 hp hll
  go_wp2_with fail
  refine (implLotCost_any _ _ _ _ _ _ l m2 s h _ hi r2).mono ?_
  rintro e w5 ⟨rfl, hs⟩
  rw [E3.out]
  unfold pairV
  dsimp only
  replace hs := Drew.below hs w4.heap.size
  replace hi := hi.keep hs
  replace hb := below_on hb hs
  replace r4 := r4.keep hs
  clear hs r2
  go_wp2_with fail
  refine (implLotCost_any _ _ _ _ _ _ l m4 s h _ hi r4).mono ?_
  rintro e w6 ⟨rfl, hs⟩
  rw [E4.out]
  unfold pairV
  dsimp only
  replace hs := Drew.below hs w5.heap.size
  replace hi := hi.keep hs
  replace hb := below_on hb hs
  clear hs r4
  have hnl : ¬ d < bc := by omega
  obtain ⟨hpw1, hpw2⟩ := pow_bd l.length hl8
  go_wp2_with fail
  go_loopw [18] (fun t wr => ∃ m : Nat, m ≤ 256 ∧ t = .int .i64 m ∧ Below w6.heap.size w6 wr) (fun t _ => 257 - (intOf t).toNat)
  case atStart => exact ⟨0, by omega, rfl, Below.refl _ _⟩
  case round =>
    obtain ⟨m, hm, rfl, hR⟩ := hrel
    have hsz := hR.size
    by_cases hmx : (m : Int) < 2 ^ l.length
    case neg =>
      go_wp2_with fail
      go_ret
      exact ⟨rfl, below_on hb hR⟩
    go_wp2_with (at_make; refine wpList_make_nums rfl (.tmp 115) (.tmp 115) rfl w6.heap.size l.length rfl rfl rfl rfl (by omega) hsz ?_; intro w7 hA hA2 hA3)
    have hb7 := below_on hR hA2
    clear hA2 hR
    generalize hg9 : wr.heap.size = g9 at *
    go_loopw [20, 21] (fun la t wr => ∃ k : Nat, k ≤ l.length ∧ t = .int .i64 k ∧ la = .int .i64 (lastOf (maskTo (maskB m) k) : Int) ∧ NumRow wr w6.heap.size g9 l.length l.length (lots16 l (maskTo (maskB m) k) k (maskTo (maskB m) k).length) ∧ Below w6.heap.size w6 wr) (fun _ t _ => l.length - (intOf t).toNat)
    case atStart => exact ⟨0, by omega, rfl, rfl, hA, hb7⟩
    case round =>
      clear hA hb7
      obtain ⟨k, hk, rfl, rfl, hA, hR⟩ := hrel
      by_cases hlt : k < l.length
      · obtain ⟨mk1, mk2, mk3, mk4⟩ := maskTo_ok (maskB m) k
        obtain ⟨st1, st2⟩ := mask_step l (maskB m) k hlt
        have hgd : l.getD k 0 = l[k] := getD_cell hlt
        rw [hgd] at st1
        clear hgd
        obtain ⟨b, o, e9, _, hcell⟩ := (hi.keep hR).at_ hlt
        obtain ⟨rfl, rfl⟩ : g1 = b ∧ 0 = o := by simpa using e9
        clear e9
        rw [Nat.zero_add] at hcell
        obtain ⟨y1, y2⟩ := HP.out _ (List.getElem_mem hlt)
        have hlast : lastOf (maskTo (maskB m) k) ≤ k := by
          rcases Nat.eq_zero_or_pos (maskTo (maskB m) k).length with h0 | h0
          · unfold lastOf
            rw [List.getD_eq_getElem?_getD, List.getElem?_eq_none (by omega)]; exact Nat.zero_le _
          · exact Nat.le_of_lt (lastOf_lt mk2 h0)
        have hbd := lots16_bd HP.out (maskTo (maskB m) k) k (maskTo (maskB m) k).length
        have hll := lots16_len l (maskTo (maskB m) k) k (maskTo (maskB m) k).length
        have hcl : ∀ j, j < l.length → wr.cell? ⟨g9, j, none⟩ = some (.int .i64 ((lots16 l (maskTo (maskB m) k) k (maskTo (maskB m) k).length).getD j 0)) ∧ -10000 ≤ (lots16 l (maskTo (maskB m) k) k (maskTo (maskB m) k).length).getD j 0 ∧ (lots16 l (maskTo (maskB m) k) k (maskTo (maskB m) k).length).getD j 0 ≤ 10000 := fun j hj => by
          have hj2 : j < (lots16 l (maskTo (maskB m) k) k (maskTo (maskB m) k).length).length := by omega
          have := hbd _ (List.getElem_mem hj2)
          rw [← getD_cell hj2] at this
          exact ⟨hA.cellD hj2, by omega, by omega⟩
        have HC := Lib.hid hcl
        clear hcl hbd hll mk1 mk2 mk3 mk4
        cases hbit : maskB m k
        · rw [hbit] at st1 st2
          simp only [Bool.false_eq_true, if_false] at st1 st2
          have ST1 := Lib.hid st1
          have ST2 := Lib.hid st2
          have hbt : (bits BinOp.and IntKind.i64 ((m : Int) / 2 ^ k) 1 == 1) = false := hbit
          clear st1 st2 hbit
          generalize lastOf (maskTo (maskB m) k) = t at *
          obtain ⟨c1', c2, c3⟩ := HC.out t (by omega)
          have f1 := hA.frozen t
          have hs := hA.drew.set t ((lots16 l (maskTo (maskB m) k) k (maskTo (maskB m) k).length).getD t 0 + l[k])
          rw [ST1.out] at hs
          have HS := Lib.hid hs
          clear hs
          generalize (lots16 l (maskTo (maskB m) k) k (maskTo (maskB m) k).length).getD t 0 = x at *
          have wr1 : IntKind.i64.wrap (x + l[k]) = x + l[k] := IntWalk.i64_in _ (by omega)
          have j1 : (t : Int) < (l.length : Int) := by omega
          have j2 : (0 : Int) ≤ (t : Int) := by omega
          have j3 : (k : Int) < (l.length : Int) := by omega
          go_wp2_with fail
          go_region_with (fail)
          all_goals
            go_wp2
            go_roundw
            case rel => exact ⟨k + 1, by omega, by go_num, by rw [ST2.out], HS.out, hR.drew.setCell hsz _⟩
            case measure => simp [intOf]; omega
        · rw [hbit] at st1 st2
          simp only [if_true] at st1 st2
          have ST1 := Lib.hid st1
          have ST2 := Lib.hid st2
          have hbt : (bits BinOp.and IntKind.i64 ((m : Int) / 2 ^ k) 1 == 1) = true := hbit
          clear st1 st2 hbit
          obtain ⟨c1', c2, c3⟩ := HC.out k hlt
          have f1 := hA.frozen k
          have hs := hA.drew.set k ((lots16 l (maskTo (maskB m) k) k (maskTo (maskB m) k).length).getD k 0 + l[k])
          rw [ST1.out] at hs
          have HS := Lib.hid hs
          clear hs
          generalize (lots16 l (maskTo (maskB m) k) k (maskTo (maskB m) k).length).getD k 0 = x at *
          have wr1 : IntKind.i64.wrap (x + l[k]) = x + l[k] := IntWalk.i64_in _ (by omega)
          have j2 : (0 : Int) ≤ (k : Int) := by omega
          have j3 : (k : Int) < (l.length : Int) := by omega
          go_wp2_with fail
          go_region_with (fail)
          all_goals
            go_wp2
            go_roundw
            case rel => exact ⟨k + 1, by omega, by go_num, by rw [ST2.out], HS.out, hR.drew.setCell hsz _⟩
            case measure => simp [intOf]; omega
      · obtain rfl : k = l.length := by omega
        obtain ⟨v, e5, hge5⟩ := HM.out (maskB m)
        have E5 := Lib.hid e5
        clear e5
        have hlt5 : ¬ v < bc := by omega
        have hm1 : (m : Int) + 1 ≤ 256 := by omega
        go_wp2_with fail
        refine (specLotCost_any _ _ _ _ _ _ l _ s h _ (hi.keep hR) (OwnInts.ints (show OwnInts _ _ _ _ _ _ from hA) (by rw [lots16_len]; omega))).mono ?_
        rintro e w9 ⟨rfl, hs⟩
        rw [E5.out]
        unfold pairV
        dsimp only
        replace hs := below_on hR (Drew.below hs wr.heap.size)
        go_wp2
        go_roundw
        case rel => exact ⟨m + 1, by omega, by go_num, hs⟩
        case measure => simp [intOf]; omega
end Go.Proofs.Ytcfcfgecdlpflaa
