/- The walks of LotCost, the reference's and the program's. -/
import Derived.Test.YtcfcfgecdlpflaaPeriods
import Derived.Test.YtcfcfgecdlpflaaLotPlain
namespace Go.Proofs.Ytcfcfgecdlpflaa
open Go.RowKit

def lcOk (needs lots : List Int) (s h : Int) : Bool :=
  arePeriods needs s h && (decide (lots.length = needs.length) && (lots.all (inB · 0 10000) && (List.range (needs.length + 1)).all fun k => decide (0 ≤ stockUp needs lots k)))
def lotCost (needs lots : List Int) (s h : Int) : Int × Bool := if lcOk needs lots s h then (costUp s h needs lots needs.length, true) else (0, false)

theorem arePeriods_parts {l : List Int} {s h : Int} (hp : arePeriods l s h = true) : (∀ x ∈ l, 0 ≤ x ∧ x ≤ 1000) ∧ l.length ≤ 10 ∧ (0 ≤ s ∧ s ≤ 10000) ∧ (0 ≤ h ∧ h ≤ 10000) := by
  simp only [arePeriods, inB, Bool.and_eq_true, List.all_eq_true, decide_eq_true_eq] at hp
  exact ⟨hp.1, by omega, hp.2.2.1, hp.2.2.2⟩
theorem lotCost_no {needs lots : List Int} {s h : Int} (hn : lcOk needs lots s h = false) : lotCost needs lots s h = (0, false) := by simp [lotCost, hn]
theorem lcOk_not_stock {needs lots : List Int} {s h : Int} {k : Nat} (hk : k ≤ needs.length) (hneg : stockUp needs lots k < 0) : lcOk needs lots s h = false := by
  unfold lcOk
  have : ((List.range (needs.length + 1)).all fun k => decide (0 ≤ stockUp needs lots k)) = false := by
    rw [List.all_eq_false]
    exact ⟨k, by simp; omega, by simp; omega⟩
  simp [this]
theorem lcOk_not_in {needs lots : List Int} {s h : Int} {k : Nat} (hk : k < lots.length) (hneg : inB lots[k] 0 10000 = false) : lcOk needs lots s h = false := by
  unfold lcOk
  rw [all_false lots _ k hk hneg]
  simp
theorem lotCost_yes {needs lots : List Int} {s h : Int} (hp : arePeriods needs s h = true) (hl : lots.length = needs.length) (hin : ∀ j (hj : j < lots.length), inB lots[j] 0 10000 = true) (hst : ∀ j ≤ needs.length, 0 ≤ stockUp needs lots j) :
    lotCost needs lots s h = (costUp s h needs lots needs.length, true) := by
  have h1 : lots.all (inB · 0 10000) = true := by
    rw [List.all_eq_true]
    intro x hx
    obtain ⟨j, hj, rfl⟩ := List.getElem_of_mem hx
    exact hin j hj
  have h2 : ((List.range (needs.length + 1)).all fun k => decide (0 ≤ stockUp needs lots k)) = true := by
    rw [List.all_eq_true]
    intro k hk
    simp at hk
    simpa using hst k (by omega)
  simp [lotCost, lcOk, hp, hl, h1, h2]
/-- A pair of results. -/
def pairV (p : Int × Bool) : Value := .tuple #[.int .i64 p.1, .bool p.2]
theorem ret_pair {p q : Int × Bool} (h : p = q) : Ending.returned (.tuple #[.int .i64 p.1, .bool p.2]) = .returned (pairV q) := by rw [h, pairV]

set_option maxRecDepth 100000 in
set_option maxHeartbeats 1000000 in
theorem specLotCost_any (A B : Option Addr) (n m c d : Nat) (needs lots : List Int) (s h : Int) (w : World) (ha : IntsIn w A n needs) (hb : IntsIn w B m lots) :
    Calls Try.prog 26 #[.slice A n c, .slice B m d, .int .i64 s, .int .i64 h] w fun e w' => e = .returned (pairV (lotCost needs lots s h)) ∧ ∃ q, w' = w.drewN q := by
  have hn := ha.len
  have hm := hb.len
  have ha0 := ha
  obtain rfl := ha.1
  obtain rfl := hb.1
  cases hp : arePeriods needs s h
  · go_enter Try.func26, Try.ntmps26
    go_wp2_with (go_at_call 59; refine (specArePeriods_any _ _ _ needs _ _ _ ha).mono ?_; rintro e w' ⟨rfl, rfl⟩)
    go_ret2
    exact ⟨ret_pair (p := (0, false)) (lotCost_no (by simp [lcOk, hp])).symm, 0, rfl⟩
  by_cases hlen : lots.length = needs.length
  case neg =>
    have hlen2 : ((lots.length : Int) != (needs.length : Int)) = true := by rw [bne_iff_ne]; omega
    have HN := Lib.hid hlen; clear hlen
    go_enter Try.func26, Try.ntmps26
    go_wp2_with (go_at_call 59; refine (specArePeriods_any _ _ _ needs _ _ _ ha).mono ?_; rintro e w' ⟨rfl, rfl⟩)
    go_ret2
    exact ⟨ret_pair (p := (0, false)) (lotCost_no (by simp [lcOk, HN.out])).symm, 0, rfl⟩
  obtain ⟨p1, p2, ⟨p3, p4⟩, ⟨p5, p6⟩⟩ := arePeriods_parts hp
  have hlen2 : ((lots.length : Int) != (needs.length : Int)) = false := by rw [bne_eq_false_iff_eq]; omega
  have HL := Lib.hid hlen; clear hlen
  have hleN : lots.length ≤ needs.length := by rw [HL.out]; exact Nat.le_refl _
  have hleM : needs.length ≤ lots.length := by rw [HL.out]; exact Nat.le_refl _
  have HP := Lib.hid p1; clear p1
  go_enter Try.func26, Try.ntmps26
  go_wp2_with (go_at_call 59; refine (specArePeriods_any _ _ _ needs _ _ _ ha).mono ?_; rintro e w' ⟨rfl, rfl⟩)
  clear hlen2
  have HP0 := Lib.hid hp; clear hp
  go_loopw [10, 11, 12] (fun cost st i wr => ∃ k q : Nat, k ≤ needs.length ∧ i = .int .i64 k ∧ st = .int .i64 (stockUp needs lots k) ∧ cost = .int .i64 (costUp s h needs lots k) ∧ Hid (∀ j (hj : j < lots.length), j < k → inB lots[j] 0 10000 = true) ∧ Hid (∀ j ≤ k, 0 ≤ stockUp needs lots j) ∧ wr = w.drewN q) (fun _ _ i _ => needs.length - (intOf i).toNat)
  case atStart => exact ⟨0, 0, by omega, rfl, rfl, rfl, fun j _ h => absurd h (by omega), fun j hj => by rw [show j = 0 by omega]; simp [stockUp], rfl⟩
  case round =>
    obtain ⟨k, q, hk, rfl, rfl, rfl, HI, HS, rfl⟩ := hrel
    by_cases hlt : k < needs.length
    · have hlt2 : k < lots.length := by omega
      obtain ⟨b, o, rfl, _, hcell⟩ := ha.at_ hlt
      obtain ⟨b2, o2, rfl, _, hcell2⟩ := hb.at_ hlt2
      cases hin : inB lots[k] 0 10000
      · go_wp2_with (go_at_call 66; refine (l1In_any _ _ _ _).mono ?_; rintro e w' ⟨rfl, rfl⟩)
        go_ret2
        exact ⟨ret_pair (p := (0, false)) (lotCost_no (lcOk_not_in hlt2 hin)).symm, q, rfl⟩
      have hl1 : 0 ≤ lots[k] ∧ lots[k] ≤ 10000 := by simpa [inB] using hin
      obtain ⟨l1, l2⟩ := hl1
      obtain ⟨y1, y2⟩ := HP.out _ (List.getElem_mem hlt)
      have hnn : ∀ j < k + 1, 0 ≤ needs.getD j 0 := fun j hj => (getD_of_all HP.out j (by omega)).1
      have hll : ∀ j < k + 1, lots.getD j 0 ≤ 10000 := fun j hj => by
        rcases Nat.lt_or_ge j k with h1 | h1
        · have := HI.out j (by omega) h1
          rw [List.getD_eq_getElem?_getD, List.getElem?_eq_getElem (by omega)]
          simp [inB] at this; exact this.2
        · obtain rfl : j = k := by omega
          rw [List.getD_eq_getElem?_getD, List.getElem?_eq_getElem hlt2]; exact l2
      have s0 := HS.out k (by omega)
      have s1 := stockUp_le needs lots k (fun j hj => hnn j (by omega)) (fun j hj => hll j (by omega))
      obtain ⟨c0, c1⟩ := costUp_bd s h needs lots k (by omega) ⟨p3, p4⟩ ⟨p5, p6⟩ (fun j hj => hnn j (by omega)) (fun j hj => hll j (by omega)) HS.out
      have HQ : Hid (stockUp needs lots (k + 1) = stockUp needs lots k + lots[k] - needs[k]) := by
        show stockUp needs lots (k + 1) = _
        simp only [stockUp, List.getD_eq_getElem?_getD, List.getElem?_eq_getElem hlt, List.getElem?_eq_getElem hlt2, Option.getD_some]
      have HC : Hid (costUp s h needs lots (k + 1) = costUp s h needs lots k + (if 0 < lots[k] then s else 0) + h * (stockUp needs lots k + lots[k] - needs[k])) := by
        show costUp s h needs lots (k + 1) = _
        rw [costUp, HQ.out]
        simp only [List.getD_eq_getElem?_getD, List.getElem?_eq_getElem hlt2, Option.getD_some]
      clear hnn hll
      have s2 : stockUp needs lots k ≤ 100000 := by omega
      have c2 : costUp s h needs lots k ≤ 20000000000 := by omega
      clear s1 c1
      by_cases hneg : stockUp needs lots k + lots[k] - needs[k] < 0
      · by_cases hpos : 0 < lots[k]
        all_goals
          go_wp2_with (go_at_call 66; refine (l1In_any _ _ _ _).mono ?_; rintro e w' ⟨rfl, rfl⟩)
          go_quiet (fail)
          go_wp2
          go_ret2
          exact ⟨ret_pair (p := (0, false)) (lotCost_no (lcOk_not_stock (k := k + 1) (by omega) (by rw [HQ.out]; exact hneg))).symm, _, rfl⟩
      · obtain ⟨m1, m2⟩ := mul_bd p5 p6 (show 0 ≤ stockUp needs lots k + lots[k] - needs[k] by omega) (show stockUp needs lots k + lots[k] - needs[k] ≤ 110000 by omega)
        by_cases hpos : 0 < lots[k]
        all_goals
          go_wp2_with (go_at_call 66; refine (l1In_any _ _ _ _).mono ?_; rintro e w' ⟨rfl, rfl⟩)
          go_quiet (fail)
          go_wp2
          go_roundw
          case rel =>
            refine ⟨k + 1, _, by omega, by go_num, by rw [HQ.out], ?_, ?_, ?_, rfl⟩
            · rw [HC.out]; (first | rw [if_pos (by omega)] | rw [if_neg (by omega)]); all_goals (first | rfl | go_num)
            · intro j hj hjk
              rcases Nat.lt_or_ge j k with h1 | h1
              · exact HI.out j hj h1
              · obtain rfl : j = k := by omega
                exact hin
            · intro j hj
              rcases Nat.lt_or_ge j (k + 1) with h1 | h1
              · exact HS.out j (by omega)
              · rw [show j = k + 1 by omega, HQ.out]; omega
          case measure => simp [intOf]; omega
    · obtain rfl : k = needs.length := by omega
      go_wp2
      go_ret2
      exact ⟨ret_pair (p := (_, true)) (lotCost_yes HP0.out HL.out (fun j hj => HI.out j hj (by omega)) HS.out).symm, q, rfl⟩

set_option maxRecDepth 100000 in
set_option maxHeartbeats 1000000 in
theorem implLotCost_any (A B : Option Addr) (n m c d : Nat) (needs lots : List Int) (s h : Int) (w : World) (ha : IntsIn w A n needs) (hb : IntsIn w B m lots) :
    Calls Try.prog 25 #[.slice A n c, .slice B m d, .int .i64 s, .int .i64 h] w fun e w' => e = .returned (pairV (lotCost needs lots s h)) ∧ ∃ q, w' = w.drewN q := by
  have hn := ha.len
  have hm := hb.len
  obtain rfl := ha.1
  obtain rfl := hb.1
  cases hp : arePeriods needs s h
  · go_enter Try.func25, Try.ntmps25
    go_wp2_with (go_at_call 61; refine (implArePeriods_any _ _ _ needs _ _ _ ha).mono ?_; rintro e w' ⟨rfl, rfl⟩)
    go_ret2
    exact ⟨ret_pair (p := (0, false)) (lotCost_no (by simp [lcOk, hp])).symm, 0, rfl⟩
  by_cases hlen : lots.length = needs.length
  case neg =>
    have hlen2 : ((lots.length : Int) != (needs.length : Int)) = true := by rw [bne_iff_ne]; omega
    have HN := Lib.hid hlen; clear hlen
    go_enter Try.func25, Try.ntmps25
    go_wp2_with (go_at_call 61; refine (implArePeriods_any _ _ _ needs _ _ _ ha).mono ?_; rintro e w' ⟨rfl, rfl⟩)
    go_ret2
    exact ⟨ret_pair (p := (0, false)) (lotCost_no (by simp [lcOk, HN.out])).symm, 0, rfl⟩
  obtain ⟨p1, p2, ⟨p3, p4⟩, ⟨p5, p6⟩⟩ := arePeriods_parts hp
  have hlen2 : ((lots.length : Int) != (needs.length : Int)) = false := by rw [bne_eq_false_iff_eq]; omega
  have HL := Lib.hid hlen; clear hlen
  have hleN : lots.length ≤ needs.length := by rw [HL.out]; exact Nat.le_refl _
  have hleM : needs.length ≤ lots.length := by rw [HL.out]; exact Nat.le_refl _
  have HP := Lib.hid p1; clear p1
  go_enter Try.func25, Try.ntmps25
  go_wp2_with (go_at_call 61; refine (implArePeriods_any _ _ _ needs _ _ _ ha).mono ?_; rintro e w' ⟨rfl, rfl⟩)
  clear hlen2
  have HP0 := Lib.hid hp; clear hp
  go_loop [30] (fun i => ∃ k : Nat, k ≤ lots.length ∧ i = .int .i64 k ∧ Hid (∀ j (hj : j < lots.length), j < k → inB lots[j] 0 10000 = true)) (fun i => lots.length - (intOf i).toNat)
  case atStart => exact ⟨0, by omega, rfl, fun j _ h => absurd h (by omega)⟩
  case round =>
    obtain ⟨k, hk, rfl, HI⟩ := hrel
    by_cases hlt : k < lots.length
    · obtain ⟨b2, o2, rfl, _, hcell2⟩ := hb.at_ hlt
      cases hin : inB lots[k] 0 10000
      · go_wp2_with (go_at_call 65; refine (in_any _ _ _ _).mono ?_; rintro e w' ⟨rfl, rfl⟩)
        go_ret2
        exact ⟨ret_pair (p := (0, false)) (lotCost_no (lcOk_not_in hlt hin)).symm, 0, rfl⟩
      · go_wp2_with (go_at_call 65; refine (in_any _ _ _ _).mono ?_; rintro e w' ⟨rfl, rfl⟩)
        go_round
        case rel =>
          refine ⟨k + 1, by omega, by go_num, ?_⟩
          intro j hj hjk
          rcases Nat.lt_or_ge j k with h1 | h1
          · exact HI.out j hj h1
          · obtain rfl : j = k := by omega
            exact hin
        case measure => simp [intOf]; omega
    obtain rfl : k = lots.length := by omega
    go_wp2
    go_loopw [12, 13, 40] (fun st cost i wr => ∃ k q : Nat, k ≤ needs.length ∧ i = .int .i64 k ∧ st = .int .i64 (stockUp needs lots k) ∧ cost = .int .i64 (costUp s h needs lots k) ∧ Hid (∀ j ≤ k, 0 ≤ stockUp needs lots j) ∧ wr = w.drewN q) (fun _ _ i _ => needs.length - (intOf i).toNat)
    case atStart => exact ⟨0, 0, by omega, rfl, rfl, rfl, fun j hj => by rw [show j = 0 by omega]; simp [stockUp], rfl⟩
    case round =>
      obtain ⟨k, q, hk, rfl, rfl, rfl, HS, rfl⟩ := hrel
      by_cases hlt : k < needs.length
      · have hlt2 : k < lots.length := by omega
        obtain ⟨b, o, rfl, _, hcell⟩ := ha.at_ hlt
        obtain ⟨b2, o2, rfl, _, hcell2⟩ := hb.at_ hlt2
        have hin := HI.out k hlt2 hlt2
        have hl1 : 0 ≤ lots[k] ∧ lots[k] ≤ 10000 := by simpa [inB] using hin
        clear hin
        obtain ⟨l1, l2⟩ := hl1
        obtain ⟨y1, y2⟩ := HP.out _ (List.getElem_mem hlt)
        have hnn : ∀ j < k + 1, 0 ≤ needs.getD j 0 := fun j hj => (getD_of_all HP.out j (by omega)).1
        have hll : ∀ j < k + 1, lots.getD j 0 ≤ 10000 := fun j hj => by
          have := HI.out j (by omega) (by omega)
          rw [List.getD_eq_getElem?_getD, List.getElem?_eq_getElem (by omega)]
          simp [inB] at this; exact this.2
        have s0 := HS.out k (by omega)
        have s1 := stockUp_le needs lots k (fun j hj => hnn j (by omega)) (fun j hj => hll j (by omega))
        obtain ⟨c0, c1⟩ := costUp_bd s h needs lots k (by omega) ⟨p3, p4⟩ ⟨p5, p6⟩ (fun j hj => hnn j (by omega)) (fun j hj => hll j (by omega)) HS.out
        have HQ : Hid (stockUp needs lots (k + 1) = stockUp needs lots k + (lots[k] - needs[k])) := by
          show stockUp needs lots (k + 1) = _
          simp only [stockUp, List.getD_eq_getElem?_getD, List.getElem?_eq_getElem hlt, List.getElem?_eq_getElem hlt2, Option.getD_some]
          omega
        have HC : Hid (costUp s h needs lots (k + 1) = costUp s h needs lots k + (if 0 < lots[k] then s else 0) + h * (stockUp needs lots k + (lots[k] - needs[k]))) := by
          show costUp s h needs lots (k + 1) = _
          rw [costUp, HQ.out]
          simp only [List.getD_eq_getElem?_getD, List.getElem?_eq_getElem hlt2, Option.getD_some]
        clear hnn hll
        have s2 : stockUp needs lots k ≤ 100000 := by omega
        have c2 : costUp s h needs lots k ≤ 20000000000 := by omega
        clear s1 c1
        by_cases hneg : stockUp needs lots k + (lots[k] - needs[k]) < 0
        · go_wp2
          go_ret2
          exact ⟨ret_pair (p := (0, false)) (lotCost_no (lcOk_not_stock (k := k + 1) (by omega) (by rw [HQ.out]; exact hneg))).symm, _, rfl⟩
        · obtain ⟨m1, m2⟩ := mul_bd p5 p6 (show 0 ≤ stockUp needs lots k + (lots[k] - needs[k]) by omega) (show stockUp needs lots k + (lots[k] - needs[k]) ≤ 110000 by omega)
          by_cases hpos : 0 < lots[k]
          all_goals
            go_wp2
            go_roundw
            case rel =>
              refine ⟨k + 1, _, by omega, by go_num, by rw [HQ.out], ?_, ?_, rfl⟩
              · rw [HC.out]; (first | rw [if_pos (by omega)] | rw [if_neg (by omega)]); all_goals (first | rfl | go_num)
              · intro j hj
                rcases Nat.lt_or_ge j (k + 1) with h1 | h1
                · exact HS.out j (by omega)
                · rw [show j = k + 1 by omega, HQ.out]; omega
            case measure => simp [intOf]; omega
      · obtain rfl : k = needs.length := by omega
        go_wp2
        go_ret2
        exact ⟨ret_pair (p := (_, true)) (lotCost_yes HP0.out HL.out (fun j hj => HI.out j hj hj) HS.out).symm, q, rfl⟩
end Go.Proofs.Ytcfcfgecdlpflaa
