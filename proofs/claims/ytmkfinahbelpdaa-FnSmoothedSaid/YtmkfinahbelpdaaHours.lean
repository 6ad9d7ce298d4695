/- The walks of the hours of a day and of what machines can work on it. -/
import Derived.Test.YtmkfinahbelpdaaCal
import Derived.Test.YtmkfinahbelpdaaCellD
namespace Go.Proofs.Ytmkfinahbelpdaa
open Go.RowKit
set_option maxRecDepth 100000 in
set_option maxHeartbeats 4000000 in
theorem specL4Hours_any (A B : Option Addr) (n m c d : Nat) (wk : List Int) (ex : List Ex) (day : Nat) (w : World) (ha : IntsIn w A n wk) (hb : ExsIn w B m ex) (hc : isCal wk ex = true) (hd : day ≤ 999) :
    Calls Try.prog 72 #[.agg #[.slice A n c, .slice B m d], .int .i64 day] w fun e w' => e = .returned (.int .i64 (hoursTo wk ex day ex.length)) ∧ Below w.heap.size w w' := by
  have hn := ha.len
  have hm := hb.len
  obtain rfl := ha.1
  obtain rfl := hb.1
  have HC := Lib.hid hc
  clear hc
  have hwl : day % 7 < wk.length := by have := (isCal_parts HC.out).1; omega
  have hbox := below_alloc w (.cells #[.slice A wk.length c, .slice B ex.length d] 28)
  have g0 : (w.alloc (.cells #[.slice A wk.length c, .slice B ex.length d] 28)).cell? ⟨w.heap.size, 0, none⟩ = some (.slice A wk.length c) := by simp [go_sem]
  have g1 : (w.alloc (.cells #[.slice A wk.length c, .slice B ex.length d] 28)).cell? ⟨w.heap.size, 1, none⟩ = some (.slice B ex.length d) := by simp [go_sem]
  go_enter Try.func72, Try.ntmps72
  go_wp2_with fail
  generalize w.alloc (.cells #[.slice A wk.length c, .slice B ex.length d] 28) = w1 at *
  replace ha := ha.keep hbox
  replace hb := hb.keep hbox
  obtain ⟨ba, oa, rfl, _, hcw⟩ := ha.at_ hwl
  have HW : Hid (wk.getD (day % 7) 0 = wk[day % 7]) := by
    show wk.getD (day % 7) 0 = _
    rw [List.getD_eq_getElem?_getD, List.getElem?_eq_getElem hwl]; rfl
  go_loop [5] (fun i => ∃ k : Nat, k ≤ ex.length ∧ i = .int .i64 k ∧ Hid (∀ j < k, (ex.getD j exNone).1 ≠ day)) (fun i => ex.length - (intOf i).toNat)
  case atStart => exact ⟨0, by omega, rfl, fun j h => absurd h (by omega)⟩
  case round =>
    obtain ⟨k, hk, rfl, HI⟩ := hrel
    by_cases hlt : k < ex.length
    · obtain ⟨b, o, rfl, hbl, hc0, hc1⟩ := exc_at hb hlt
      have HG : Hid (ex.getD k exNone = ex[k]) := ex_getD _ _ hlt
      by_cases hq : ex[k].1 = day
      · have hqb : (ex[k].1 == (day : Int)) = true := by rw [hq]; simp
        have HQ := Lib.hid hq
        clear hq
        go_wp2
        go_ret
        exact ⟨ret_int (by rw [hoursTo_hit HC.out day k hlt (by rw [HG.out]; exact HQ.out), HG.out]), hbox⟩
      · have hqb : (ex[k].1 == (day : Int)) = false := by simpa using hq
        have HQ := Lib.hid hq
        clear hq
        go_wp2
        go_round
        case rel =>
          refine ⟨k + 1, by omega, by go_num, fun j hj => ?_⟩
          rcases Nat.lt_or_ge j k with h1 | h1
          · exact HI.out j h1
          · rw [show j = k by omega, HG.out]; exact HQ.out
        case measure => simp [intOf]; omega
    · obtain rfl : k = ex.length := by omega
      go_wp2
      go_ret
      exact ⟨ret_int (by rw [hoursTo_miss wk ex day _ HI.out, HW.out]), hbox⟩
set_option maxRecDepth 100000 in
set_option maxHeartbeats 4000000 in
theorem implHours_any (A B : Option Addr) (n m c d : Nat) (wk : List Int) (ex : List Ex) (w : World) (ha : IntsIn w A n wk) (hb : ExsIn w B m ex) (hc : isCal wk ex = true) :
    Calls Try.prog 79 #[.agg #[.slice A n c, .slice B m d]] w fun e w' => ∃ g, e = .returned (.slice (some ⟨g, 0, none⟩) 1000 1000) ∧ NumRow w' w.heap.size g 1000 1000 (hoursRow wk ex ex.length) ∧ Below w.heap.size w w' := by
  have hn := ha.len
  have hm := hb.len
  obtain rfl := ha.1
  obtain rfl := hb.1
  have HC := Lib.hid hc
  clear hc
  have hbox := below_alloc w (.cells #[.slice A wk.length c, .slice B ex.length d] 28)
  have hs1 : w.heap.size < (w.alloc (.cells #[.slice A wk.length c, .slice B ex.length d] 28)).heap.size := by simp
  have g0 : (w.alloc (.cells #[.slice A wk.length c, .slice B ex.length d] 28)).cell? ⟨w.heap.size, 0, none⟩ = some (.slice A wk.length c) := by simp [go_sem]
  have g1 : (w.alloc (.cells #[.slice A wk.length c, .slice B ex.length d] 28)).cell? ⟨w.heap.size, 1, none⟩ = some (.slice B ex.length d) := by simp [go_sem]
  go_enter Try.func79, Try.ntmps79
  go_wp2_with (at_make; refine wpList_make_nums rfl _ _ rfl w.heap.size 1000 rfl rfl rfl rfl (by omega) (by simp) ?_; intro w2 hA hA2 hA3)
  have hws : (w.alloc (.cells #[.slice A wk.length c, .slice B ex.length d] 28)).heap.size = w.heap.size + 1 := by simp
  generalize w.alloc (.cells #[.slice A wk.length c, .slice B ex.length d] 28) = w1 at *
  replace g0 := (hA2.cell (p := ⟨w.heap.size, 0, none⟩) hs1).trans g0
  replace g1 := (hA2.cell (p := ⟨w.heap.size, 1, none⟩) hs1).trans g1
  have hB := below_on hbox hA2
  rw [← weekRow_zero wk] at hA
  have hz2 : w1.heap.size ≤ w2.heap.size := hA2.size
  have hz3 : w.heap.size < w2.heap.size := by omega
  have hw1 : w.heap.size ≤ w1.heap.size := by omega
  have hne1 : ¬ w1.heap.size = w.heap.size := by omega
  have hne2 : ¬ w.heap.size = w1.heap.size := by omega
  clear hA2
  rw [hws] at hA hA3 hw1 hne1 hne2
  clear hws hz2 hA3 hs1
  generalize hgg : w.heap.size + 1 = gg at *
  clear hgg
  go_loopw [10] (fun i wr => ∃ k : Nat, k ≤ 1000 ∧ i = .int .i64 k ∧ NumRow wr w.heap.size gg 1000 1000 (weekRow wk k) ∧ wr.cell? ⟨w.heap.size, 0, none⟩ = some (.slice A wk.length c) ∧ wr.cell? ⟨w.heap.size, 1, none⟩ = some (.slice B ex.length d) ∧ Below w.heap.size w wr) (fun i _ => 1000 - (intOf i).toNat)
  case atStart => exact ⟨0, by omega, rfl, hA, g0, g1, hB⟩
  case round =>
    clear hA g0 g1 hB
    obtain ⟨k, hk, rfl, hA, g0, g1, HR⟩ := hrel
    by_cases hlt : k < 1000
    · have hwl : k % 7 < wk.length := by have := (isCal_parts HC.out).1; omega
      obtain ⟨ba, oa, rfl, _, hcw⟩ := (ha.keep HR).at_ hwl
      have HW : Hid (wk.getD (k % 7) 0 = wk[k % 7]) := by
        show wk.getD (k % 7) 0 = _
        rw [List.getD_eq_getElem?_getD, List.getElem?_eq_getElem hwl]; rfl
      have HN := Lib.hid (weekRow_next wk k hlt)
      have f1 := hA.frozen k
      have c1 := hA.cellD (j := k) (by rw [weekRow_len]; exact hlt)
      have hs := hA.set k wk[k % 7]
      rw [← HW.out, HN.out] at hs
      have HS : Hid (NumRow (wr.setCell ⟨gg, k, none⟩ (.int .i64 wk[k % 7])) w.heap.size gg 1000 1000 (weekRow wk (k + 1))) := by
        show NumRow _ _ _ _ _ _
        rw [← HW.out]; exact hs
      clear hs
      generalize (weekRow wk k).getD k 0 = old at *
      go_wp2
      go_roundw
      case rel => exact ⟨k + 1, by omega, by go_num, HS.out, by simp [go_sem, hne2, g0], by simp [go_sem, hne2, g1], HR.setCell (by exact hw1) _⟩
      case measure => simp [intOf]; omega
    · obtain rfl : k = 1000 := by omega
      rw [weekRow_all wk ex] at hA
      clear hlt hk
      go_wp2_with fail
      go_loopw [26] (fun i wr => ∃ k : Nat, k ≤ ex.length ∧ i = .int .i64 k ∧ NumRow wr w.heap.size gg 1000 1000 (hoursRow wk ex k) ∧ Below w.heap.size w wr) (fun i _ => ex.length - (intOf i).toNat)
      case atStart => exact ⟨0, by omega, rfl, hA, HR⟩
      case round =>
        clear hA HR g0 g1
        obtain ⟨k, hk, rfl, hA, HR⟩ := hrel
        by_cases hlt : k < ex.length
        · obtain ⟨b, o, rfl, hbl, hc0, hc1⟩ := exc_at (hb.keep HR) hlt
          obtain ⟨e1, e2, e3, e4, _⟩ := (isCal_parts HC.out).2.2.2 k hlt
          have HG := ex_getD _ _ hlt
          have HN := hoursRow_next wk ex k ex[k].1.toNat (by rw [HG] at e1 e2 ⊢; omega) (by rw [HG] at e1 e2; omega)
          rw [HG] at e1 e2 e3 e4 HN
          clear HG
          obtain ⟨y, hy⟩ : ∃ y : Nat, ex[k].1 = (y : Int) := ⟨ex[k].1.toNat, by omega⟩
          rw [hy] at hc0 HN e1 e2
          rw [Int.toNat_natCast] at HN
          have hy9 : y < 1000 := by omega
          have HY := Lib.hid hy
          clear hy
          have hsz : w.heap.size ≤ wr.heap.size := HR.size
          have hgl := (own_lt hA.2 _ rfl).2
          simp only at hgl
          have hA1 := hA.keep (below_alloc wr (.cells #[.int .i64 (y : Int), .int .i64 ex[k].2] 103))
          have f1 := hA1.frozen y
          have c1 := hA1.cellD (j := y) (by rw [hoursRow_len]; exact hy9)
          have hs := hA.set y ex[k].2
          rw [HN] at hs
          have hs2 := hs.keep (below_alloc _ (.cells #[.int .i64 (y : Int), .int .i64 ex[k].2] 103))
          have HS := Lib.hid hs2
          clear hs2
          clear hs HN
          generalize (hoursRow wk ex k).getD y 0 = old at *
          have hng : ¬ gg = wr.heap.size := by omega
          go_wp2
          go_roundw
          case rel => exact ⟨k + 1, by omega, by go_num, HS.out, (HR.setCell (p := ⟨gg, y, none⟩) hw1 _).alloc (by simp; exact hsz) _⟩
          case measure => simp [intOf]; omega
        · obtain rfl : k = ex.length := by omega
          go_wp2
          go_ret
          exact ⟨gg, rfl, hA, HR⟩
set_option maxRecDepth 100000 in
set_option maxHeartbeats 1000000 in
theorem specHoursOn_any (A B : Option Addr) (n m c d : Nat) (wk : List Int) (ex : List Ex) (day : Int) (w : World) (ha : IntsIn w A n wk) (hb : ExsIn w B m ex) :
    Calls Try.prog 43 #[.agg #[.slice A n c, .slice B m d], .int .i64 day] w fun e w' => e = .returned (.int .i64 (hoursOn wk ex day)) ∧ Below w.heap.size w w' := by
  have hbox := below_alloc w (.cells #[.slice A n c, .slice B m d] 28)
  have hs1 : w.heap.size < (w.alloc (.cells #[.slice A n c, .slice B m d] 28)).heap.size := by simp
  have g0 : (w.alloc (.cells #[.slice A n c, .slice B m d] 28)).cell? ⟨w.heap.size, 0, none⟩ = some (.slice A n c) := by simp [go_sem]
  have g1 : (w.alloc (.cells #[.slice A n c, .slice B m d] 28)).cell? ⟨w.heap.size, 1, none⟩ = some (.slice B m d) := by simp [go_sem]
  replace ha := ha.keep hbox
  replace hb := hb.keep hbox
  cases h1 : isCal wk ex
  · go_enter Try.func43, Try.ntmps43
    go_wp2_with (go_at_call 41; refine (specIsCalendar_any _ _ _ _ _ _ wk ex _ ha hb).mono ?_; rintro e w' ⟨rfl, hs⟩)
    go_ret
    exact ⟨ret_int (hoursOn_no (by rw [h1]; rfl)).symm, below_on hbox hs⟩
  cases h2 : inB day 0 999
  · go_enter Try.func43, Try.ntmps43
    go_wp2_with (first | (go_at_call 41; refine (specIsCalendar_any _ _ _ _ _ _ wk ex _ ha hb).mono ?_; rintro e w' ⟨rfl, hs⟩) | (go_at_call 42; refine (l1In_any _ _ _ _).mono ?_; rintro e w' ⟨rfl, rfl⟩))
    go_ret
    exact ⟨ret_int (hoursOn_no (by rw [h2, Bool.and_false])).symm, below_on hbox hs⟩
  obtain ⟨d1, d2⟩ := inB_iff.1 h2
  obtain ⟨y, rfl⟩ : ∃ y : Nat, day = (y : Int) := ⟨day.toNat, by omega⟩
  have hy : y ≤ 999 := by omega
  go_enter Try.func43, Try.ntmps43
  go_wp2_with (first
    | (go_at_call 41; refine (specIsCalendar_any _ _ _ _ _ _ wk ex _ ha hb).mono ?_; rintro e w5 ⟨rfl, hs⟩; replace g0 := (hs.cell (p := ⟨w.heap.size, 0, none⟩) hs1).trans g0; replace g1 := (hs.cell (p := ⟨w.heap.size, 1, none⟩) hs1).trans g1)
    | (go_at_call 42; refine (l1In_any _ _ _ _).mono ?_; rintro e w' ⟨rfl, rfl⟩)
    | (go_at_call 72; refine (specL4Hours_any _ _ _ _ _ _ wk ex y _ (ha.keep hs) (hb.keep hs) h1 hy).mono ?_; rintro e w' ⟨rfl, hs2⟩))
  go_ret
  exact ⟨ret_int (hoursOn_yes h1 h2).symm, below_on (below_on hbox hs) hs2⟩
set_option maxRecDepth 100000 in
set_option maxHeartbeats 1000000 in
theorem implHoursOn_any (A B : Option Addr) (n m c d : Nat) (wk : List Int) (ex : List Ex) (day : Int) (w : World) (ha : IntsIn w A n wk) (hb : ExsIn w B m ex) :
    Calls Try.prog 70 #[.agg #[.slice A n c, .slice B m d], .int .i64 day] w fun e w' => e = .returned (.int .i64 (hoursOn wk ex day)) ∧ Below w.heap.size w w' := by
  have hbox := below_alloc w (.cells #[.slice A n c, .slice B m d] 28)
  have hs1 : w.heap.size < (w.alloc (.cells #[.slice A n c, .slice B m d] 28)).heap.size := by simp
  have g0 : (w.alloc (.cells #[.slice A n c, .slice B m d] 28)).cell? ⟨w.heap.size, 0, none⟩ = some (.slice A n c) := by simp [go_sem]
  have g1 : (w.alloc (.cells #[.slice A n c, .slice B m d] 28)).cell? ⟨w.heap.size, 1, none⟩ = some (.slice B m d) := by simp [go_sem]
  replace ha := ha.keep hbox
  replace hb := hb.keep hbox
  cases h1 : isCal wk ex
  · go_enter Try.func70, Try.ntmps70
    go_wp2_with (go_at_call 37; refine (implIsCalendar_any _ _ _ _ _ _ wk ex _ ha hb).mono ?_; rintro e w' ⟨rfl, hs⟩)
    go_ret
    exact ⟨ret_int (hoursOn_no (by rw [h1]; rfl)).symm, below_on hbox hs⟩
  cases h2 : inB day 0 999
  · go_enter Try.func70, Try.ntmps70
    go_wp2_with (first | (go_at_call 37; refine (implIsCalendar_any _ _ _ _ _ _ wk ex _ ha hb).mono ?_; rintro e w' ⟨rfl, hs⟩) | (go_at_call 38; refine (in_any _ _ _ _).mono ?_; rintro e w' ⟨rfl, rfl⟩))
    go_ret
    exact ⟨ret_int (hoursOn_no (by rw [h2, Bool.and_false])).symm, below_on hbox hs⟩
  obtain ⟨d1, d2⟩ := inB_iff.1 h2
  obtain ⟨y, rfl⟩ : ∃ y : Nat, day = (y : Int) := ⟨day.toNat, by omega⟩
  have hy : y ≤ 999 := by omega
  have HY : Hid (hoursOn wk ex y = (hoursRow wk ex ex.length).getD y 0) := by
    show hoursOn wk ex y = _
    rw [hoursOn_yes h1 h2, hoursRow_at _ _ _ _ (by omega), Int.toNat_natCast]
  go_enter Try.func70, Try.ntmps70
  go_wp2_with (first
    | (go_at_call 37; refine (implIsCalendar_any _ _ _ _ _ _ wk ex _ ha hb).mono ?_; rintro e w5 ⟨rfl, hs⟩; replace g0 := (hs.cell (p := ⟨w.heap.size, 0, none⟩) hs1).trans g0; replace g1 := (hs.cell (p := ⟨w.heap.size, 1, none⟩) hs1).trans g1)
    | (go_at_call 38; refine (in_any _ _ _ _).mono ?_; rintro e w' ⟨rfl, rfl⟩)
    | (go_at_call 79; refine (implHours_any _ _ _ _ _ _ wk ex _ (ha.keep hs) (hb.keep hs) h1).mono ?_; rintro e w' ⟨g, rfl, hr, hs2⟩; have hcell := hr.cellD (j := y) (by rw [hoursRow_len]; omega)))
  go_ret
  exact ⟨ret_int HY.out.symm, below_on (below_on hbox hs) hs2⟩
theorem minutesOn_no {wk : List Int} {ex : List (Int × Int)} {m day : Int} (h : inB m 0 20 = false) : minutesOn wk ex m day = 0 := by simp [minutesOn, h]
theorem minutesOn_yes {wk : List Int} {ex : List (Int × Int)} {m day : Int} (h : inB m 0 20 = true) : minutesOn wk ex m day = hoursOn wk ex day * 60 * m := by simp [minutesOn, h]
theorem minutesOn_bd (wk : List Int) (ex : List (Int × Int)) (m day : Int) : 0 ≤ minutesOn wk ex m day ∧ minutesOn wk ex m day ≤ 28800 := by
  cases h : inB m 0 20
  · rw [minutesOn_no h]; omega
  · rw [minutesOn_yes h]
    obtain ⟨m1, m2⟩ := inB_iff.1 h
    obtain ⟨h1, h2⟩ := hoursOn_bd wk ex day
    have h3 : 0 ≤ hoursOn wk ex day * 60 := by omega
    exact ⟨Int.mul_nonneg h3 m1, Int.le_trans (Int.mul_le_mul_of_nonneg_right (show hoursOn wk ex day * 60 ≤ 1440 by omega) m1) (Int.mul_le_mul_of_nonneg_left m2 (by decide))⟩
set_option maxRecDepth 100000 in
set_option maxHeartbeats 1000000 in
theorem specMinutesOn_any (A B : Option Addr) (n m c d : Nat) (wk : List Int) (ex : List Ex) (k day : Int) (w : World) (ha : IntsIn w A n wk) (hb : ExsIn w B m ex) :
    Calls Try.prog 11 #[.agg #[.slice A n c, .slice B m d], .int .i64 k, .int .i64 day] w fun e w' => e = .returned (.int .i64 (minutesOn wk ex k day)) ∧ Below w.heap.size w w' := by
  have hbox := below_alloc w (.cells #[.slice A n c, .slice B m d] 28)
  replace ha := ha.keep hbox
  replace hb := hb.keep hbox
  cases h1 : inB k 0 20
  · go_enter Try.func11, Try.ntmps11
    go_wp2_with (go_at_call 42; refine (l1In_any _ _ _ _).mono ?_; rintro e w' ⟨rfl, rfl⟩)
    go_ret
    exact ⟨ret_int (minutesOn_no h1).symm, hbox⟩
  obtain ⟨m1, m2⟩ := inB_iff.1 h1
  obtain ⟨q1, q2⟩ := hoursOn_bd wk ex day
  obtain ⟨q3, q4⟩ := minutesOn_bd wk ex k day
  rw [minutesOn_yes h1] at q3 q4
  go_enter Try.func11, Try.ntmps11
  go_wp2_with (first | (go_at_call 42; refine (l1In_any _ _ _ _).mono ?_; rintro e w' ⟨rfl, rfl⟩) | (go_at_call 43; refine (specHoursOn_any _ _ _ _ _ _ wk ex day _ ha hb).mono ?_; rintro e w' ⟨rfl, hs⟩))
  go_ret
  exact ⟨ret_int (minutesOn_yes h1).symm, below_on hbox hs⟩
set_option maxRecDepth 100000 in
set_option maxHeartbeats 1000000 in
theorem implMinutesOn_any (A B : Option Addr) (n m c d : Nat) (wk : List Int) (ex : List Ex) (k day : Int) (w : World) (ha : IntsIn w A n wk) (hb : ExsIn w B m ex) :
    Calls Try.prog 39 #[.agg #[.slice A n c, .slice B m d], .int .i64 k, .int .i64 day] w fun e w' => e = .returned (.int .i64 (minutesOn wk ex k day)) ∧ Below w.heap.size w w' := by
  have hbox := below_alloc w (.cells #[.slice A n c, .slice B m d] 28)
  replace ha := ha.keep hbox
  replace hb := hb.keep hbox
  cases h1 : inB k 0 20
  · go_enter Try.func39, Try.ntmps39
    go_wp2_with (go_at_call 38; refine (in_any _ _ _ _).mono ?_; rintro e w' ⟨rfl, rfl⟩)
    go_ret
    exact ⟨ret_int (minutesOn_no h1).symm, hbox⟩
  obtain ⟨m1, m2⟩ := inB_iff.1 h1
  obtain ⟨q1, q2⟩ := hoursOn_bd wk ex day
  obtain ⟨q3, q4⟩ := minutesOn_bd wk ex k day
  rw [minutesOn_yes h1] at q3 q4
  go_enter Try.func39, Try.ntmps39
  go_wp2_with (first | (go_at_call 38; refine (in_any _ _ _ _).mono ?_; rintro e w' ⟨rfl, rfl⟩) | (go_at_call 70; refine (implHoursOn_any _ _ _ _ _ _ wk ex day _ ha hb).mono ?_; rintro e w' ⟨rfl, hs⟩))
  go_ret
  exact ⟨ret_int (minutesOn_yes h1).symm, below_on hbox hs⟩
end Go.Proofs.Ytmkfinahbelpdaa
