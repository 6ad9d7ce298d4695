/- The walks of OverloadOf. -/
import Derived.Test.YtcfcfgecdlpflaaHours
import Derived.Test.YtcfcfgecdlpflaaMinutes
import Derived.Test.YtcfcfgecdlpflaaOpenCal
import Derived.Deep.RegionHeld3
import Derived.Deep.DeepMust
namespace Go.Proofs.Ytcfcfgecdlpflaa
open Go.RowKit
def overTo (l : List Ld) (wk : List Int) (ex : List (Int × Int)) (m : Int) : Nat → Int
  | 0 => 0
  | k + 1 => overTo l wk ex m k + max 0 ((l.getD k ldNone).2.2 - minutesOn wk ex m (l.getD k ldNone).2.1)
def overloadOf (l : List Ld) (wk : List Int) (ex : List (Int × Int)) (m : Int) : Int := if areMinutes l then overTo l wk ex m l.length else 0
theorem areMinutes_parts {l : List Ld} (h : areMinutes l = true) : l.length ≤ 200 ∧ ∀ k (hk : k < l.length), 0 ≤ l[k].2.1 ∧ l[k].2.1 ≤ 999 ∧ 0 ≤ l[k].2.2 ∧ l[k].2.2 ≤ 1000000000 := by
  simp only [areMinutes, Bool.and_eq_true, decide_eq_true_eq, List.all_eq_true, List.mem_range, okMin, inB_iff] at h
  refine ⟨by omega, fun k hk => ?_⟩
  have h1 := h.1 k hk
  rw [ld_getD _ _ hk] at h1
  exact ⟨h1.2.2.1.1, h1.2.2.1.2, h1.2.2.2.1.1, h1.2.2.2.1.2⟩
theorem overTo_bd {l : List Ld} (h : areMinutes l = true) (wk : List Int) (ex : List (Int × Int)) (m : Int) (k : Nat) (hk : k ≤ l.length) : 0 ≤ overTo l wk ex m k ∧ overTo l wk ex m k ≤ 1000000000 * k := by
  induction k with
  | zero => simp [overTo]
  | succ k ih =>
    obtain ⟨i1, i2⟩ := ih (by omega)
    have h1 := (areMinutes_parts h).2 k (by omega)
    obtain ⟨h2, h3⟩ := minutesOn_bd wk ex m l[k].2.1
    simp only [overTo]
    rw [ld_getD _ _ (by omega)]
    omega
theorem overTo_next {l : List Ld} (wk : List Int) (ex : List (Int × Int)) (m : Int) (k : Nat) (hk : k < l.length) : overTo l wk ex m (k + 1) = overTo l wk ex m k + if 0 < l[k].2.2 - minutesOn wk ex m l[k].2.1 then l[k].2.2 - minutesOn wk ex m l[k].2.1 else 0 := by
  simp only [overTo]
  rw [ld_getD _ _ hk]
  split <;> omega
theorem overloadOf_no {l : List Ld} {wk : List Int} {ex : List (Int × Int)} {m : Int} (h : areMinutes l = false) : overloadOf l wk ex m = 0 := by simp [overloadOf, h]
theorem overloadOf_yes {l : List Ld} {wk : List Int} {ex : List (Int × Int)} {m : Int} (h : areMinutes l = true) : overloadOf l wk ex m = overTo l wk ex m l.length := by simp [overloadOf, h]
theorem overloadOf_nil {wk : List Int} {ex : List (Int × Int)} {m : Int} : overloadOf [] wk ex m = 0 := by unfold overloadOf; split <;> rfl
theorem over_wrap {l : List Ld} (h : areMinutes l = true) (wk : List Int) (ex : List (Int × Int)) (m : Int) (k : Nat) (hk : k < l.length) :
    IntKind.i64.wrap (overTo l wk ex m k + if minutesOn wk ex m l[k].2.1 < l[k].2.2 then l[k].2.2 - minutesOn wk ex m l[k].2.1 else 0) = overTo l wk ex m (k + 1) := by
  obtain ⟨z1, z2⟩ := overTo_bd h wk ex m k (by omega)
  obtain ⟨v1, v2⟩ := minutesOn_bd wk ex m l[k].2.1
  have h1 := (areMinutes_parts h).2 k hk
  have h2 := (areMinutes_parts h).1
  rw [overTo_next wk ex m k hk]
  split
  · rw [if_pos (by omega)]; exact IntWalk.i64_in _ (by omega)
  · rw [if_neg (by omega)]; exact IntWalk.i64_in _ (by omega)
theorem over_end {l : List Ld} {wk : List Int} {ex : List (Int × Int)} {m : Int} (h : 0 < l.length → areMinutes l = true) : overTo l wk ex m l.length = overloadOf l wk ex m := by
  cases l with
  | nil => rw [overloadOf_nil]; rfl
  | cons a t => rw [overloadOf_yes (h (by simp))]
theorem boxOf_two {w : World} {N : Nat} {x y : Value} (h0 : w.cell? ⟨N, 0, none⟩ = some x) (h1 : w.cell? ⟨N, 1, none⟩ = some y) (h : N < w.heap.size) : BoxOf w N [x, y] := by
  refine ⟨h, fun j u hu => ?_⟩
  match j, hu with
  | 0, hu => rw [h0]; exact hu
  | 1, hu => rw [h1]; exact hu
set_option maxRecDepth 100000 in
set_option maxHeartbeats 4000000 in
theorem specOverloadOf_any (A C B : Option Addr) (n c n2 c2 m d : Nat) (l : List Ld) (wk : List Int) (ex : List Ex) (q : Int) (w : World) (hl : LoadsIn w A n l) (hok : ∀ x ∈ l, okLd x) (ha : IntsIn w C n2 wk) (hb : ExsIn w B m ex) :
    Calls Try.prog 57 #[.slice A n c, .agg #[.slice C n2 c2, .slice B m d], .int .i64 q] w fun e w' => e = .returned (.int .i64 (overloadOf l wk ex q)) ∧ Below w.heap.size w w' := by
  have hn := hl.len
  obtain rfl := hl.1
  have hb0 := below_alloc w (.cells #[.slice C n2 c2, .slice B m d] 80)
  have hx0 := boxOf_alloc w #[.slice C n2 c2, .slice B m d] 80
  simp only at hx0
  have HO := Lib.hid hok
  clear hok
  go_enter Try.func57, Try.ntmps57
  go_wp2_with fail
  generalize w.alloc (.cells #[.slice C n2 c2, .slice B m d] 80) = w1 at *
  go_loopw [7, 8] (fun s i wr => ∃ k : Nat, k ≤ l.length ∧ i = .int .i64 k ∧ s = .int .i64 (overTo l wk ex q k) ∧ (0 < k → areMinutes l = true) ∧ BoxOf wr w.heap.size [.slice C n2 c2, .slice B m d] ∧ Below w.heap.size w wr) (fun _ i _ => l.length - (intOf i).toNat)
  case atStart => exact ⟨0, by omega, rfl, rfl, fun h => absurd h (by omega), hx0, hb0⟩
  case round =>
    clear hx0 hb0
    obtain ⟨k, hk, rfl, rfl, hare, hx0, hb0⟩ := hrel
    have HA := Lib.hid hare
    clear hare
    by_cases hlt : k < l.length
    · cases hm : areMinutes l
      · have hk0 : k = 0 := by
          rcases Nat.eq_zero_or_pos k with h0 | h0
          · exact h0
          · rw [HA.out h0] at hm; cases hm
        subst hk0
        go_wp2_with (go_at_call 48; refine (specAreMinutes_any _ _ _ l _ (hl.keep hb0) HO.out).mono ?_; rintro e w2 ⟨rfl, hs⟩)
        go_ret
        exact ⟨ret_int (overloadOf_no hm).symm, below_on hb0 (hs.below _)⟩
      · go_wp2_with (go_at_call 48; refine (specAreMinutes_any _ _ _ l _ (hl.keep hb0) HO.out).mono ?_; rintro e w2 ⟨rfl, hs⟩)
        have hs2 := hs.below wr.heap.size
        clear hs
        replace hx0 := hx0.keep hs2
        replace hb0 := below_on hb0 hs2
        clear hs2
        obtain ⟨g0, g1, gl⟩ := hx0.two
        obtain ⟨b, o, rfl, hbl, hc0, hc1, hc2⟩ := load_at (hl.keep hb0) hlt
        have HM := Lib.hid hm
        clear hm
        obtain ⟨y1, y2, y3, y4⟩ := (areMinutes_parts HM.out).2 k hlt
        have y5 := (areMinutes_parts HM.out).1
        obtain ⟨z1, z2⟩ := overTo_bd HM.out wk ex q k hk
        obtain ⟨v1, v2⟩ := minutesOn_bd wk ex q l[k].2.1
        have HW := Lib.hid (over_wrap HM.out wk ex q k hlt)
        have wr1 : IntKind.i64.wrap (l[k].2.2 - minutesOn wk ex q l[k].2.1) = l[k].2.2 - minutesOn wk ex q l[k].2.1 := IntWalk.i64_in _ (by omega)
        go_wp2_with fail
        go_region_held3 (fun w' => w'.cell? ⟨b, o + k * 3 + 2, none⟩ = some (.int .i64 l[k].2.2) ∧ w'.cell? ⟨b, o + k * 3 + 1, none⟩ = some (.int .i64 l[k].2.1) ∧ w'.cell? ⟨w.heap.size, 0, none⟩ = some (.slice C n2 c2) ∧ w'.cell? ⟨w.heap.size, 1, none⟩ = some (.slice B m d) ∧ b < w'.heap.size ∧ w.heap.size < w'.heap.size ∧ Below w.heap.size w w')
          (first
            | exact ⟨hc2, hc1, g0, g1, hbl, gl, hb0.drew⟩
            | (go_split_ands; refine ⟨?_, ?_, ?_, ?_, ?_, ?_, ?_⟩ <;> with_reducible assumption)
            | (go_split_ands; exact ⟨(hb3.cell (by with_reducible assumption)).trans (by with_reducible assumption), (hb3.cell (by with_reducible assumption)).trans (by with_reducible assumption), (hb3.cell (by with_reducible assumption)).trans (by with_reducible assumption), (hb3.cell (by with_reducible assumption)).trans (by with_reducible assumption), Nat.lt_of_lt_of_le (by with_reducible assumption) hb3.size, Nat.lt_of_lt_of_le (by with_reducible assumption) hb3.size, below_on (by with_reducible assumption) hb3⟩))
          (first
            | ((with_reducible refine (specMinutesOn_any C B n2 m c2 d wk ex q _ _ (ha.keep ?_) (hb.keep ?_)).mono ?_); (go_split_ands; with_reducible assumption); (go_split_ands; with_reducible assumption); rintro e w3 ⟨rfl, hb3⟩))
        clear wr1
        go_split_ands
        go_wp2
        go_roundw
        case rel => exact ⟨k + 1, by omega, by go_num, congrArg (Value.int .i64) HW.out, (by intros; first | trivial | exact HM.out), boxOf_two (by with_reducible assumption) (by with_reducible assumption) (by with_reducible assumption), by with_reducible assumption⟩
        case measure => simp [intOf]; omega
    · obtain rfl : k = l.length := by omega
      go_wp2_with fail
      go_ret
      exact ⟨ret_int (over_end HA.out), hb0⟩
set_option maxRecDepth 100000 in
set_option maxHeartbeats 4000000 in
theorem implOverloadOf_any (A C B : Option Addr) (n c n2 c2 m d : Nat) (l : List Ld) (wk : List Int) (ex : List Ex) (q : Int) (w : World) (hl : LoadsIn w A n l) (hok : ∀ x ∈ l, okLd x) (ha : IntsIn w C n2 wk) (hb : ExsIn w B m ex) :
    Calls Try.prog 58 #[.slice A n c, .agg #[.slice C n2 c2, .slice B m d], .int .i64 q] w fun e w' => e = .returned (.int .i64 (overloadOf l wk ex q)) ∧ Below w.heap.size w w' := by
  have hn := hl.len
  obtain rfl := hl.1
  have hb0 := below_alloc w (.cells #[.slice C n2 c2, .slice B m d] 80)
  have hx0 := boxOf_alloc w #[.slice C n2 c2, .slice B m d] 80
  simp only at hx0
  have HO := Lib.hid hok
  clear hok
  cases hm : areMinutes l
  · go_enter Try.func58, Try.ntmps58
    go_wp2_with (go_at_call 50; refine (implAreMinutes_any _ _ _ l _ (hl.keep hb0) HO.out).mono ?_; rintro e w2 ⟨rfl, hs⟩)
    go_ret
    exact ⟨ret_int (overloadOf_no hm).symm, below_on hb0 hs⟩
  have HM := Lib.hid hm
  have y5 := (areMinutes_parts HM.out).1
  go_enter Try.func58, Try.ntmps58
  go_wp2_with (go_at_call 50; refine (implAreMinutes_any _ _ _ l _ (hl.keep hb0) HO.out).mono ?_; rintro e w2 ⟨rfl, hs⟩)
  clear hm
  replace hx0 := hx0.keep hs
  replace hb0 := below_on hb0 hs
  clear hs
  go_loopw [7, 15] (fun s i wr => ∃ k : Nat, k ≤ l.length ∧ i = .int .i64 k ∧ s = .int .i64 (overTo l wk ex q k) ∧ BoxOf wr w.heap.size [.slice C n2 c2, .slice B m d] ∧ Below w.heap.size w wr) (fun _ i _ => l.length - (intOf i).toNat)
  case atStart => exact ⟨0, by omega, rfl, rfl, hx0, hb0⟩
  case round =>
    clear hx0 hb0
    obtain ⟨k, hk, rfl, rfl, hx0, hb0⟩ := hrel
    by_cases hlt : k < l.length
    · obtain ⟨b, o, rfl, hbl, hc0, hc1, hc2⟩ := load_at (hl.keep hb0) hlt
      obtain ⟨y1, y2, y3, y4⟩ := (areMinutes_parts HM.out).2 k hlt
      obtain ⟨z1, z2⟩ := overTo_bd HM.out wk ex q k hk
      obtain ⟨v1, v2⟩ := minutesOn_bd wk ex q l[k].2.1
      have HW := Lib.hid (over_wrap HM.out wk ex q k hlt)
      have wr1 : IntKind.i64.wrap (l[k].2.2 - minutesOn wk ex q l[k].2.1) = l[k].2.2 - minutesOn wk ex q l[k].2.1 := IntWalk.i64_in _ (by omega)
      have hs := below_alloc wr (.cells #[.string l[k].1, .int .i64 l[k].2.1, .int .i64 l[k].2.2] 116)
      have hsz := hb0.size
      have hx1 := hx0.keep hs
      have hb1 := below_on hb0 hs
      have d1 : (wr.alloc (.cells #[.string l[k].1, .int .i64 l[k].2.1, .int .i64 l[k].2.2] 116)).cell? ⟨wr.heap.size, 1, none⟩ = some (.int .i64 l[k].2.1) := by simp [go_sem]
      have d2 : (wr.alloc (.cells #[.string l[k].1, .int .i64 l[k].2.1, .int .i64 l[k].2.2] 116)).cell? ⟨wr.heap.size, 2, none⟩ = some (.int .i64 l[k].2.2) := by simp [go_sem]
      have dl : wr.heap.size < (wr.alloc (.cells #[.string l[k].1, .int .i64 l[k].2.1, .int .i64 l[k].2.2] 116)).heap.size := by simp
      obtain ⟨g0, g1, gl⟩ := hx1.two
      go_wp2_with fail
      generalize wr.alloc (.cells #[.string l[k].1, .int .i64 l[k].2.1, .int .i64 l[k].2.2] 116) = wq at *
      clear hs hx0 hx1 hc0 hc1 hc2
      generalize wr.heap.size = N2 at *
      go_region_held3 (fun w' => w'.cell? ⟨N2, 2, none⟩ = some (.int .i64 l[k].2.2) ∧ w'.cell? ⟨N2, 1, none⟩ = some (.int .i64 l[k].2.1) ∧ w'.cell? ⟨w.heap.size, 0, none⟩ = some (.slice C n2 c2) ∧ w'.cell? ⟨w.heap.size, 1, none⟩ = some (.slice B m d) ∧ N2 < w'.heap.size ∧ w.heap.size < w'.heap.size ∧ Below w.heap.size w w')
        (first
          | exact ⟨d2, d1, g0, g1, dl, gl, hb1.drew⟩
          | (go_split_ands; refine ⟨?_, ?_, ?_, ?_, ?_, ?_, ?_⟩ <;> with_reducible assumption)
          | (go_split_ands; exact ⟨(hb3.cell (by with_reducible assumption)).trans (by with_reducible assumption), (hb3.cell (by with_reducible assumption)).trans (by with_reducible assumption), (hb3.cell (by with_reducible assumption)).trans (by with_reducible assumption), (hb3.cell (by with_reducible assumption)).trans (by with_reducible assumption), Nat.lt_of_lt_of_le (by with_reducible assumption) hb3.size, Nat.lt_of_lt_of_le (by with_reducible assumption) hb3.size, below_on (by with_reducible assumption) hb3⟩))
        (first
          | ((with_reducible refine (implMinutesOn_any C B n2 m c2 d wk ex q _ _ (ha.keep ?_) (hb.keep ?_)).mono ?_); (go_split_ands; with_reducible assumption); (go_split_ands; with_reducible assumption); rintro e w3 ⟨rfl, hb3⟩))
      clear wr1
      go_split_ands
      go_wp2
      go_roundw
      case rel => exact ⟨k + 1, by omega, by go_num, congrArg (Value.int .i64) HW.out, boxOf_two (by with_reducible assumption) (by with_reducible assumption) (by with_reducible assumption), by with_reducible assumption⟩
      case measure => simp [intOf]; omega
    · obtain rfl : k = l.length := by omega
      go_wp2_with fail
      go_ret
      exact ⟨ret_int (overloadOf_yes HM.out).symm, hb0⟩
end Go.Proofs.Ytcfcfgecdlpflaa
