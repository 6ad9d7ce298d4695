/- Part 15 of the texts of this claim: The walks of the hours of a day and of what machines can work on it; The walks of AddWorkdays, backwards. -/
import Derived.Test.YtpbibkjcjgggdaaIt6
import Derived.Test.YtpbibkjcjgggdaaIt14
import Derived.Test.YtpbibkjcjgggdaaIt2
/- The walks of the hours of a day and of what machines can work on it. -/
namespace Go.Proofs.Ytpbibkjcjgggdaa
open Go.RowKit
set_option maxRecDepth 100000 in
set_option maxHeartbeats 4000000 in
theorem specL4Hours_any (A B : Option Addr) (n m c d : Nat) (wk : List Int) (ex : List Ex) (day : Nat) (w : World) (ha : IntsIn w A n wk) (hb : ExsIn w B m ex) (hc : isCal wk ex = true) (hd : day ≤ 999) :
    Calls Try.prog 37 #[.agg #[.slice A n c, .slice B m d], .int .i64 day] w fun e w' => e = .returned (.int .i64 (hoursTo wk ex day ex.length)) ∧ Below w.heap.size w w' := by
  have hn := ha.len
  have hm := hb.len
  obtain rfl := ha.1
  obtain rfl := hb.1
  have HC := Lib.hid hc
  clear hc
  have hwl : day % 7 < wk.length := by have := (isCal_parts HC.out).1; omega
  have hbox := below_alloc w (.cells #[.slice A wk.length c, .slice B ex.length d] 29)
  have g0 : (w.alloc (.cells #[.slice A wk.length c, .slice B ex.length d] 29)).cell? ⟨w.heap.size, 0, none⟩ = some (.slice A wk.length c) := by simp [go_sem]
  have g1 : (w.alloc (.cells #[.slice A wk.length c, .slice B ex.length d] 29)).cell? ⟨w.heap.size, 1, none⟩ = some (.slice B ex.length d) := by simp [go_sem]
  go_enter Try.func37, Try.ntmps37
  go_wp2_with fail
  generalize w.alloc (.cells #[.slice A wk.length c, .slice B ex.length d] 29) = w1 at *
  replace ha := ha.keep hbox
  replace hb := hb.keep hbox
  obtain ⟨ba, oa, rfl, _, hcw⟩ := ha.at_ hwl
  have HW : Hid (wk.getD (day % 7) 0 = wk[day % 7]) := by
    show wk.getD (day % 7) 0 = _
    rw [List.getD_eq_getElem?_getD, List.getElem?_eq_getElem hwl]; rfl
  go_loop [5] (fun i => ∃ k : Nat, k ≤ ex.length ∧ i = .int .i64 k ∧ Hid (∀ j < k, (ex.getD j exNone).1 ≠ day)) (fun i => ex.length - (intOf i).toNat)
  case atStart => exact ⟨0, by omega, rfl, fun j h => absurd h (by omega)⟩
  case round =>
    obtain ⟨k, hk, rfl, HI⟩ := hrel
    by_cases hlt : k < ex.length
    · obtain ⟨b, o, rfl, hbl, hc0, hc1⟩ := exc_at hb hlt
      have HG : Hid (ex.getD k exNone = ex[k]) := ex_getD _ _ hlt
      by_cases hq : ex[k].1 = day
      · have hqb : (ex[k].1 == (day : Int)) = true := by rw [hq]; simp
        have HQ := Lib.hid hq
        clear hq
        go_wp2
        go_ret
        exact ⟨ret_int (by rw [hoursTo_hit HC.out day k hlt (by rw [HG.out]; exact HQ.out), HG.out]), hbox⟩
      · have hqb : (ex[k].1 == (day : Int)) = false := by simpa using hq
        have HQ := Lib.hid hq
        clear hq
        go_wp2
        go_round
        case rel =>
          refine ⟨k + 1, by omega, by go_num, fun j hj => ?_⟩
          rcases Nat.lt_or_ge j k with h1 | h1
          · exact HI.out j h1
          · rw [show j = k by omega, HG.out]; exact HQ.out
        case measure => simp [intOf]; omega
    · obtain rfl : k = ex.length := by omega
      go_wp2
      go_ret
      exact ⟨ret_int (by rw [hoursTo_miss wk ex day _ HI.out, HW.out]), hbox⟩
set_option maxRecDepth 100000 in
set_option maxHeartbeats 4000000 in
theorem implHours_any (A B : Option Addr) (n m c d : Nat) (wk : List Int) (ex : List Ex) (w : World) (ha : IntsIn w A n wk) (hb : ExsIn w B m ex) (hc : isCal wk ex = true) :
    Calls Try.prog 73 #[.agg #[.slice A n c, .slice B m d]] w fun e w' => ∃ g, e = .returned (.slice (some ⟨g, 0, none⟩) 1000 1000) ∧ NumRow w' w.heap.size g 1000 1000 (hoursRow wk ex ex.length) ∧ Below w.heap.size w w' := by
  have hn := ha.len
  have hm := hb.len
  obtain rfl := ha.1
  obtain rfl := hb.1
  have HC := Lib.hid hc
  clear hc
  have hbox := below_alloc w (.cells #[.slice A wk.length c, .slice B ex.length d] 29)
  have hs1 : w.heap.size < (w.alloc (.cells #[.slice A wk.length c, .slice B ex.length d] 29)).heap.size := by simp
  have g0 : (w.alloc (.cells #[.slice A wk.length c, .slice B ex.length d] 29)).cell? ⟨w.heap.size, 0, none⟩ = some (.slice A wk.length c) := by simp [go_sem]
  have g1 : (w.alloc (.cells #[.slice A wk.length c, .slice B ex.length d] 29)).cell? ⟨w.heap.size, 1, none⟩ = some (.slice B ex.length d) := by simp [go_sem]
  go_enter Try.func73, Try.ntmps73
  go_wp2_with (at_make; refine wpList_make_nums rfl _ _ rfl w.heap.size 1000 rfl rfl rfl rfl (by omega) (by simp) ?_; intro w2 hA hA2 hA3)
  have hws : (w.alloc (.cells #[.slice A wk.length c, .slice B ex.length d] 29)).heap.size = w.heap.size + 1 := by simp
  generalize w.alloc (.cells #[.slice A wk.length c, .slice B ex.length d] 29) = w1 at *
  replace g0 := (hA2.cell (p := ⟨w.heap.size, 0, none⟩) hs1).trans g0
  replace g1 := (hA2.cell (p := ⟨w.heap.size, 1, none⟩) hs1).trans g1
  have hB := below_on hbox hA2
  rw [← weekRow_zero wk] at hA
  have hz2 : w1.heap.size ≤ w2.heap.size := hA2.size
  have hz3 : w.heap.size < w2.heap.size := by omega
  have hw1 : w.heap.size ≤ w1.heap.size := by omega
  have hne1 : ¬ w1.heap.size = w.heap.size := by omega
  have hne2 : ¬ w.heap.size = w1.heap.size := by omega
  clear hA2
  rw [hws] at hA hA3 hw1 hne1 hne2
  clear hws hz2 hA3 hs1
  generalize hgg : w.heap.size + 1 = gg at *
  clear hgg
  go_loopw [10] (fun i wr => ∃ k : Nat, k ≤ 1000 ∧ i = .int .i64 k ∧ NumRow wr w.heap.size gg 1000 1000 (weekRow wk k) ∧ wr.cell? ⟨w.heap.size, 0, none⟩ = some (.slice A wk.length c) ∧ wr.cell? ⟨w.heap.size, 1, none⟩ = some (.slice B ex.length d) ∧ Below w.heap.size w wr) (fun i _ => 1000 - (intOf i).toNat)
  case atStart => exact ⟨0, by omega, rfl, hA, g0, g1, hB⟩
  case round =>
    clear hA g0 g1 hB
    obtain ⟨k, hk, rfl, hA, g0, g1, HR⟩ := hrel
    by_cases hlt : k < 1000
    · have hwl : k % 7 < wk.length := by have := (isCal_parts HC.out).1; omega
      obtain ⟨ba, oa, rfl, _, hcw⟩ := (ha.keep HR).at_ hwl
      have HW : Hid (wk.getD (k % 7) 0 = wk[k % 7]) := by
        show wk.getD (k % 7) 0 = _
        rw [List.getD_eq_getElem?_getD, List.getElem?_eq_getElem hwl]; rfl
      have HN := Lib.hid (weekRow_next wk k hlt)
      have f1 := hA.frozen k
      have c1 := hA.cellD (j := k) (by rw [weekRow_len]; exact hlt)
      have hs := hA.set k wk[k % 7]
      rw [← HW.out, HN.out] at hs
      have HS : Hid (NumRow (wr.setCell ⟨gg, k, none⟩ (.int .i64 wk[k % 7])) w.heap.size gg 1000 1000 (weekRow wk (k + 1))) := by
        show NumRow _ _ _ _ _ _
        rw [← HW.out]; exact hs
      clear hs
      generalize (weekRow wk k).getD k 0 = old at *
      go_wp2
      go_roundw
      case rel => exact ⟨k + 1, by omega, by go_num, HS.out, by simp [go_sem, hne2, g0], by simp [go_sem, hne2, g1], HR.setCell (by exact hw1) _⟩
      case measure => simp [intOf]; omega
    · obtain rfl : k = 1000 := by omega
      rw [weekRow_all wk ex] at hA
      clear hlt hk
      go_wp2_with fail
      go_loopw [26] (fun i wr => ∃ k : Nat, k ≤ ex.length ∧ i = .int .i64 k ∧ NumRow wr w.heap.size gg 1000 1000 (hoursRow wk ex k) ∧ Below w.heap.size w wr) (fun i _ => ex.length - (intOf i).toNat)
      case atStart => exact ⟨0, by omega, rfl, hA, HR⟩
      case round =>
        clear hA HR g0 g1
        obtain ⟨k, hk, rfl, hA, HR⟩ := hrel
        by_cases hlt : k < ex.length
        · obtain ⟨b, o, rfl, hbl, hc0, hc1⟩ := exc_at (hb.keep HR) hlt
          obtain ⟨e1, e2, e3, e4, _⟩ := (isCal_parts HC.out).2.2.2 k hlt
          have HG := ex_getD _ _ hlt
          have HN := hoursRow_next wk ex k ex[k].1.toNat (by rw [HG] at e1 e2 ⊢; omega) (by rw [HG] at e1 e2; omega)
          rw [HG] at e1 e2 e3 e4 HN
          clear HG
          obtain ⟨y, hy⟩ : ∃ y : Nat, ex[k].1 = (y : Int) := ⟨ex[k].1.toNat, by omega⟩
          rw [hy] at hc0 HN e1 e2
          rw [Int.toNat_natCast] at HN
          have hy9 : y < 1000 := by omega
          have HY := Lib.hid hy
          clear hy
          have hsz : w.heap.size ≤ wr.heap.size := HR.size
          have hgl := (own_lt hA.2 _ rfl).2
          simp only at hgl
          have hA1 := hA.keep (below_alloc wr (.cells #[.int .i64 (y : Int), .int .i64 ex[k].2] 93))
          have f1 := hA1.frozen y
          have c1 := hA1.cellD (j := y) (by rw [hoursRow_len]; exact hy9)
          have hs := hA.set y ex[k].2
          rw [HN] at hs
          have hs2 := hs.keep (below_alloc _ (.cells #[.int .i64 (y : Int), .int .i64 ex[k].2] 93))
          have HS := Lib.hid hs2
          clear hs2
          clear hs HN
          generalize (hoursRow wk ex k).getD y 0 = old at *
          have hng : ¬ gg = wr.heap.size := by omega
          go_wp2
          go_roundw
          case rel => exact ⟨k + 1, by omega, by go_num, HS.out, (HR.setCell (p := ⟨gg, y, none⟩) hw1 _).alloc (by simp; exact hsz) _⟩
          case measure => simp [intOf]; omega
        · obtain rfl : k = ex.length := by omega
          go_wp2
          go_ret
          exact ⟨gg, rfl, hA, HR⟩
theorem minutesOn_no {wk : List Int} {ex : List (Int × Int)} {m day : Int} (h : inB m 0 20 = false) : minutesOn wk ex m day = 0 := by simp [minutesOn, h]
theorem minutesOn_yes {wk : List Int} {ex : List (Int × Int)} {m day : Int} (h : inB m 0 20 = true) : minutesOn wk ex m day = hoursOn wk ex day * 60 * m := by simp [minutesOn, h]
theorem minutesOn_bd (wk : List Int) (ex : List (Int × Int)) (m day : Int) : 0 ≤ minutesOn wk ex m day ∧ minutesOn wk ex m day ≤ 28800 := by
  cases h : inB m 0 20
  · rw [minutesOn_no h]; omega
  · rw [minutesOn_yes h]
    obtain ⟨m1, m2⟩ := inB_iff.1 h
    obtain ⟨h1, h2⟩ := hoursOn_bd wk ex day
    have h3 : 0 ≤ hoursOn wk ex day * 60 := by omega
    exact ⟨Int.mul_nonneg h3 m1, Int.le_trans (Int.mul_le_mul_of_nonneg_right (show hoursOn wk ex day * 60 ≤ 1440 by omega) m1) (Int.mul_le_mul_of_nonneg_left m2 (by decide))⟩
end Go.Proofs.Ytpbibkjcjgggdaa
/- The walks of AddWorkdays, backwards. -/
namespace Go.Proofs.Ytpbibkjcjgggdaa
open Go.RowKit
/-- k workdays back from day d. -/
def backD (h : Nat → Int) : Nat → Nat → Option Nat
  | d, 0 => some d
  | 0, _ + 1 => none
  | d + 1, k + 1 => if 0 < h d then backD h d k else backD h d (k + 1)
theorem backD_zero (h : Nat → Int) (d : Nat) : backD h d 0 = some d := by cases d <;> rfl
theorem backD_none (h : Nat → Int) (k : Nat) : backD h 0 (k + 1) = none := rfl
theorem backD_work (h : Nat → Int) (d k : Nat) (hd : 0 < h d) : backD h (d + 1) (k + 1) = backD h d k := by simp only [backD]; rw [if_pos hd]
theorem backD_free (h : Nat → Int) (d k : Nat) (hd : ¬ 0 < h d) : backD h (d + 1) (k + 1) = backD h d (k + 1) := by simp only [backD]; rw [if_neg hd]
theorem backD_le (h : Nat → Int) : ∀ (d k x : Nat), backD h d k = some x → x ≤ d
  | d, 0, x, e => by rw [backD_zero] at e; have := Option.some.inj e; omega
  | 0, k + 1, x, e => by cases e
  | d + 1, k + 1, x, e => by
    by_cases hd : 0 < h d
    · rw [backD_work h d k hd] at e; have := backD_le h d k x e; omega
    · rw [backD_free h d k hd] at e; have := backD_le h d (k + 1) x e; omega
def pairO (o : Option Nat) : Int × Bool := match o with
  | some d => ((d : Int), true)
  | none => (0, false)
def addWd (wk : List Int) (ex : List (Int × Int)) (day n : Int) : Int × Bool :=
  if (isCal wk ex && inB day 0 999) = true then pairO (backD (fun d => hoursTo wk ex d ex.length) day.toNat (-n).toNat) else (0, false)
theorem addWd_no {wk : List Int} {ex : List (Int × Int)} {day n : Int} (h : (isCal wk ex && inB day 0 999) = false) : addWd wk ex day n = (0, false) := by unfold addWd; rw [if_neg (by rw [h]; decide)]
theorem addWd_yes {wk : List Int} {ex : List (Int × Int)} {dn kn : Nat} (h1 : isCal wk ex = true) (h2 : inB (dn : Int) 0 999 = true) : addWd wk ex (dn : Int) (-(kn : Int)) = pairO (backD (fun d => hoursTo wk ex d ex.length) dn kn) := by
  unfold addWd
  rw [if_pos (by rw [h1, h2]; rfl)]
  rw [Int.neg_neg, Int.toNat_natCast, Int.toNat_natCast]
theorem addWd_bd (wk : List Int) (ex : List (Int × Int)) (day n : Int) : 0 ≤ (addWd wk ex day n).1 ∧ (addWd wk ex day n).1 ≤ 999 := by
  unfold addWd
  split
  · next h =>
    simp only [Bool.and_eq_true, inB_iff] at h
    cases hb : backD (fun d => hoursTo wk ex d ex.length) day.toNat (-n).toNat with
    | none => simp [pairO]
    | some d =>
      have := backD_le _ _ _ _ hb
      simp only [pairO]
      omega
  · simp
def PairI (w : World) (q : Int × Bool) (e : Ending) (w' : World) : Prop := e = .returned (.tuple #[.int .i64 q.1, .bool q.2]) ∧ Below w.heap.size w w'
theorem pairI_mk {w w' : World} {q : Int × Bool} {a : Int} {b : Bool} (h : q = (a, b)) (hb : Below w.heap.size w w') : PairI w q (.returned (.tuple #[.int .i64 a, .bool b])) w' := by subst h; exact ⟨rfl, hb⟩
set_option maxRecDepth 100000 in
set_option maxHeartbeats 4000000 in
theorem specAddWorkdays_any (A B : Option Addr) (n m c d : Nat) (wk : List Int) (ex : List Ex) (day : Int) (kn : Nat) (w : World) (ha : IntsIn w A n wk) (hb : ExsIn w B m ex) (hkn : kn ≤ 1000000) :
    Calls Try.prog 11 #[.agg #[.slice A n c, .slice B m d], .int .i64 day, .int .i64 (-(kn : Int))] w (PairI w (addWd wk ex day (-(kn : Int)))) := by
  have hb0 := below_alloc w (.cells #[.slice A n c, .slice B m d] 29)
  have B0 : BoxOf (w.alloc (.cells #[.slice A n c, .slice B m d] 29)) w.heap.size [.slice A n c, .slice B m d] := boxOf_alloc w #[.slice A n c, .slice B m d] 29
  cases hc : isCal wk ex
  · have HF : Hid (addWd wk ex day (-(kn : Int)) = (0, false)) := addWd_no (by rw [hc]; rfl)
    obtain ⟨g0, g1, gl⟩ := B0.two
    go_enter Try.func11, Try.ntmps11
    go_wp2_with fail
    generalize w.alloc (.cells #[.slice A n c, .slice B m d] 29) = V at *
    refine (specIsCalendar_any _ _ _ _ _ _ wk ex _ (ha.keep hb0) (hb.keep hb0)).mono ?_
    rintro e V1 ⟨rfl, hs⟩
    rw [hc]
    go_wp2_with fail
    go_ret2
    exact pairI_mk HF.out (below_on hb0 hs)
  cases hd : inB day 0 999
  · have HF : Hid (addWd wk ex day (-(kn : Int)) = (0, false)) := addWd_no (by rw [hc, hd]; rfl)
    obtain ⟨g0, g1, gl⟩ := B0.two
    go_enter Try.func11, Try.ntmps11
    go_wp2_with fail
    generalize w.alloc (.cells #[.slice A n c, .slice B m d] 29) = V at *
    refine (specIsCalendar_any _ _ _ _ _ _ wk ex _ (ha.keep hb0) (hb.keep hb0)).mono ?_
    rintro e V1 ⟨rfl, hs⟩
    rw [hc]
    go_wp2_with fail
    refine (l1In_any _ _ _ _).mono ?_
    rintro e V2 ⟨rfl, rfl⟩
    rw [hd]
    go_wp2_with fail
    go_ret2
    exact pairI_mk HF.out (below_on hb0 hs)
  have hdd := inB_iff.1 hd
  obtain ⟨dn, rfl⟩ : ∃ dn : Nat, day = (dn : Int) := ⟨day.toNat, by omega⟩
  have HALL := Lib.hid (addWd_yes (kn := kn) hc hd)
  have HB := Lib.hid (fun (j : Nat) => hoursTo_bd hc j ex.length (Nat.le_refl _))
  obtain ⟨g0, g1, gl⟩ := B0.two
  go_enter Try.func11, Try.ntmps11
  go_wp2_with fail
  generalize w.alloc (.cells #[.slice A n c, .slice B m d] 29) = V at *
  refine (specIsCalendar_any _ _ _ _ _ _ wk ex _ (ha.keep hb0) (hb.keep hb0)).mono ?_
  rintro e V1 ⟨rfl, hs⟩
  rw [hc]
  replace hb0 := below_on hb0 hs
  replace B0 := B0.keep hs
  clear hs g0 g1 gl
  go_wp2_with fail
  refine (l1In_any _ _ _ _).mono ?_
  rintro e V2 ⟨rfl, rfl⟩
  rw [hd]
  have hk0 : ¬ (0 : Int) < -(kn : Int) := by omega
  have hk1 : decide ((0 : Int) < -(kn : Int)) = false := decide_eq_false hk0
  go_wp2_with fail
  refine wp_loop_rounds 1 ?_
  rw [rounds_succ]
  go_wp2_with fail
  clear hk0 hk1
  have hdl : dn ≤ 999 := by omega
  go_loopw [8, 9] (fun a b wr => ∃ d1 k1 : Nat, d1 ≤ dn ∧ k1 ≤ kn ∧ a = .int .i64 d1 ∧ b = .int .i64 (-(k1 : Int)) ∧ Hid (backD (fun d => hoursTo wk ex d ex.length) d1 k1 = backD (fun d => hoursTo wk ex d ex.length) dn kn) ∧ BoxOf wr w.heap.size [.slice A n c, .slice B m d] ∧ Below w.heap.size w wr) (fun a _ _ => (intOf a).toNat)
  case atStart => exact ⟨dn, kn, Nat.le_refl _, Nat.le_refl _, rfl, rfl, rfl, B0, hb0⟩
  case round =>
    clear B0 hb0
    obtain ⟨d1, k1, hd1, hk1, rfl, rfl, HI, B0, hb0⟩ := hrel
    by_cases hkz : k1 = 0
    · subst hkz
      have HF : Hid (addWd wk ex (dn : Int) (-(kn : Int)) = ((d1 : Int), true)) := by
        show _ = _
        rw [HALL.out, ← HI.out, backD_zero]; rfl
      have q1 : decide ((-((0 : Nat) : Int)) < 0) = false := by decide
      have q2 : ¬ (999 : Int) < (d1 : Int) := by omega
      go_wp2_with fail
      go_ret2
      exact pairI_mk HF.out hb0
    have e1 : -(k1 : Int) < 0 := by omega
    by_cases hdz : d1 = 0
    · subst hdz
      have HF : Hid (addWd wk ex (dn : Int) (-(kn : Int)) = (0, false)) := by
        show _ = _
        obtain ⟨k2, rfl⟩ : ∃ k2, k1 = k2 + 1 := ⟨k1 - 1, by omega⟩
        rw [HALL.out, ← HI.out, backD_none]; rfl
      have q1 : (-(k1 : Int) != 0) = true := by rw [bne_iff_ne]; omega
      go_wp2_with fail
      go_ret2
      exact pairI_mk HF.out hb0
    obtain ⟨d2, rfl⟩ : ∃ d2, d1 = d2 + 1 := ⟨d1 - 1, by omega⟩
    obtain ⟨k2, rfl⟩ : ∃ k2, k1 = k2 + 1 := ⟨k1 - 1, by omega⟩
    have q2 : (0 : Int) < ((d2 + 1 : Nat) : Int) := by omega
    have q3 : (((d2 + 1 : Nat) : Int)) - 1 = (d2 : Int) := by omega
    have q4 : IntKind.i64.wrap (((d2 + 1 : Nat) : Int) - 1) = (d2 : Int) := by rw [q3]; exact IntWalk.i64_in _ (by omega)
    obtain ⟨g0, g1, gl⟩ := B0.two
    obtain ⟨h1, h2⟩ := HB.out d2
    obtain ⟨mv, hmv, hmw⟩ : ∃ mv : Int, (if (1 : Int) < hoursTo wk ex d2 ex.length then 1 else hoursTo wk ex d2 ex.length) = mv ∧ mv = (if 0 < hoursTo wk ex d2 ex.length then 1 else 0) := ⟨_, rfl, by split <;> split <;> omega⟩
    have HMW := Lib.hid hmw
    clear hmw q3
    go_wp2_with fail
    refine (specL4Hours_any _ _ _ _ _ _ wk ex d2 _ (ha.keep hb0) (hb.keep hb0) hc (by omega)).mono ?_
    rintro e V3 ⟨rfl, hs⟩
    have B3 := B0.keep hs
    have hb3 := below_on hb0 hs
    clear hs g0 g1 gl
    by_cases hw : 0 < hoursTo wk ex d2 ex.length
    · have HX : Hid (backD (fun d => hoursTo wk ex d ex.length) d2 k2 = backD (fun d => hoursTo wk ex d ex.length) dn kn) := by
        show _ = _
        rw [← HI.out, backD_work (fun d => hoursTo wk ex d ex.length) _ _ hw]
      have hm1 : mv = 1 := by rw [HMW.out, if_pos hw]
      subst hm1
      have q5 : IntKind.i64.wrap (-((k2 + 1 : Nat) : Int) + 1) = -(k2 : Int) := by
        rw [show -((k2 + 1 : Nat) : Int) + 1 = -(k2 : Int) by omega]; exact IntWalk.i64_in _ (by omega)
      clear hw
      go_wp2_with fail
      go_roundw
      case rel => exact ⟨d2, k2, by omega, by omega, rfl, by first | rfl | go_num, HX.out, B3, hb3⟩
      case measure => simp [intOf]
    · have HX : Hid (backD (fun d => hoursTo wk ex d ex.length) d2 (k2 + 1) = backD (fun d => hoursTo wk ex d ex.length) dn kn) := by
        show _ = _
        rw [← HI.out, backD_free (fun d => hoursTo wk ex d ex.length) _ _ hw]
      have hm1 : mv = 0 := by rw [HMW.out, if_neg hw]
      subst hm1
      have q5 : IntKind.i64.wrap (-((k2 + 1 : Nat) : Int) + 0) = -((k2 + 1 : Nat) : Int) := by
        rw [Int.add_zero]; exact IntWalk.i64_in _ (by omega)
      clear hw
      go_wp2_with fail
      go_roundw
      case rel => exact ⟨d2, k2 + 1, by omega, by omega, rfl, by first | rfl | go_num, HX.out, B3, hb3⟩
      case measure => simp [intOf]
set_option maxRecDepth 100000 in
set_option maxHeartbeats 4000000 in
theorem implAddWorkdays_any (A B : Option Addr) (n m c d : Nat) (wk : List Int) (ex : List Ex) (day : Int) (kn : Nat) (w : World) (ha : IntsIn w A n wk) (hb : ExsIn w B m ex) (hkn : kn ≤ 1000000) :
    Calls Try.prog 57 #[.agg #[.slice A n c, .slice B m d], .int .i64 day, .int .i64 (-(kn : Int))] w (PairI w (addWd wk ex day (-(kn : Int)))) := by
  have hb0 := below_alloc w (.cells #[.slice A n c, .slice B m d] 29)
  have B0 : BoxOf (w.alloc (.cells #[.slice A n c, .slice B m d] 29)) w.heap.size [.slice A n c, .slice B m d] := boxOf_alloc w #[.slice A n c, .slice B m d] 29
  cases hc : isCal wk ex
  · have HF : Hid (addWd wk ex day (-(kn : Int)) = (0, false)) := addWd_no (by rw [hc]; rfl)
    obtain ⟨g0, g1, gl⟩ := B0.two
    go_enter Try.func57, Try.ntmps57
    go_wp2_with fail
    generalize w.alloc (.cells #[.slice A n c, .slice B m d] 29) = V at *
    refine (implIsCalendar_any _ _ _ _ _ _ wk ex _ (ha.keep hb0) (hb.keep hb0)).mono ?_
    rintro e V1 ⟨rfl, hs⟩
    rw [hc]
    go_wp2_with fail
    go_ret2
    exact pairI_mk HF.out (below_on hb0 hs)
  cases hd : inB day 0 999
  · have HF : Hid (addWd wk ex day (-(kn : Int)) = (0, false)) := addWd_no (by rw [hc, hd]; rfl)
    obtain ⟨g0, g1, gl⟩ := B0.two
    go_enter Try.func57, Try.ntmps57
    go_wp2_with fail
    generalize w.alloc (.cells #[.slice A n c, .slice B m d] 29) = V at *
    refine (implIsCalendar_any _ _ _ _ _ _ wk ex _ (ha.keep hb0) (hb.keep hb0)).mono ?_
    rintro e V1 ⟨rfl, hs⟩
    rw [hc]
    go_wp2_with fail
    refine (in_any _ _ _ _).mono ?_
    rintro e V2 ⟨rfl, rfl⟩
    rw [hd]
    go_wp2_with fail
    go_ret2
    exact pairI_mk HF.out (below_on hb0 hs)
  have hdd := inB_iff.1 hd
  obtain ⟨dn, rfl⟩ : ∃ dn : Nat, day = (dn : Int) := ⟨day.toNat, by omega⟩
  have HALL := Lib.hid (addWd_yes (kn := kn) hc hd)
  obtain ⟨g0, g1, gl⟩ := B0.two
  go_enter Try.func57, Try.ntmps57
  go_wp2_with fail
  generalize w.alloc (.cells #[.slice A n c, .slice B m d] 29) = V at *
  refine (implIsCalendar_any _ _ _ _ _ _ wk ex _ (ha.keep hb0) (hb.keep hb0)).mono ?_
  rintro e V1 ⟨rfl, hs⟩
  rw [hc]
  replace hb0 := below_on hb0 hs
  replace B0 := B0.keep hs
  clear hs g0 g1 gl
  obtain ⟨g0, g1, gl⟩ := B0.two
  go_wp2_with fail
  refine (in_any _ _ _ _).mono ?_
  rintro e V2 ⟨rfl, rfl⟩
  rw [hd]
  go_wp2_with fail
  refine (implHours_any _ _ _ _ _ _ wk ex _ (ha.keep hb0) (hb.keep hb0) hc).mono ?_
  rintro e V3 ⟨g, rfl, hN, hs⟩
  replace hb0 := below_on hb0 hs
  clear hs g0 g1 gl B0
  have hdl : dn ≤ 999 := by omega
  by_cases hkz : kn = 0
  · subst hkz
    have HF : Hid (addWd wk ex (dn : Int) (-((0 : Nat) : Int)) = ((dn : Int), true)) := by
      show _ = _
      rw [HALL.out, backD_zero]; rfl
    have q0 : (-((0 : Nat) : Int)) = 0 := by decide
    have q1 : (dn : Int) ≤ 999 := by omega
    rw [q0] at HF ⊢
    go_wp2_with fail
    refine wp_loop_rounds 1 ?_
    rw [rounds_succ]
    go_wp2_with fail
    go_ret2
    exact pairI_mk HF.out hb0
  have q0 : ¬ (0 : Int) ≤ -(kn : Int) := by omega
  have q9 : IntKind.i64.wrap ((dn : Int) - 1) = (dn : Int) - 1 := IntWalk.i64_in _ (by omega)
  go_wp2_with fail
  have hkn1 : 1 ≤ kn := by omega
  clear q0 q9 hkz
  go_loopw [9, 11] (fun b a wr => ∃ d1 k1 : Nat, d1 ≤ dn ∧ 1 ≤ k1 ∧ k1 ≤ kn ∧ a = .int .i64 ((d1 : Int) - 1) ∧ b = .int .i64 ((k1 : Int) - (kn : Int)) ∧ Hid (backD (fun d => hoursTo wk ex d ex.length) d1 k1 = backD (fun d => hoursTo wk ex d ex.length) dn kn) ∧ NumRow wr V1.heap.size g 1000 1000 (hoursRow wk ex ex.length) ∧ Below w.heap.size w wr) (fun _ a _ => (intOf a + 1).toNat)
  case atStart => exact ⟨dn, kn, Nat.le_refl _, hkn1, Nat.le_refl _, rfl, congrArg (Value.int .i64) (by omega), rfl, hN, hb0⟩
  case round =>
    clear hN hb0
    obtain ⟨d1, k1, hd1, hk1, hk2, rfl, rfl, HI, hN, hb0⟩ := hrel
    by_cases hdz : d1 = 0
    · subst hdz
      have HF : Hid (addWd wk ex (dn : Int) (-(kn : Int)) = (0, false)) := by
        show _ = _
        obtain ⟨k2, rfl⟩ : ∃ k2, k1 = k2 + 1 := ⟨k1 - 1, by omega⟩
        rw [HALL.out, ← HI.out, backD_none]; rfl
      have q1 : ¬ (0 : Int) ≤ ((0 : Nat) : Int) - 1 := by decide
      go_wp2_with fail
      go_ret2
      exact pairI_mk HF.out hb0
    obtain ⟨d2, rfl⟩ : ∃ d2, d1 = d2 + 1 := ⟨d1 - 1, by omega⟩
    obtain ⟨k2, rfl⟩ : ∃ k2, k1 = k2 + 1 := ⟨k1 - 1, by omega⟩
    have q3 : (((d2 + 1 : Nat) : Int)) - 1 = (d2 : Int) := by omega
    rw [q3]
    have q4 : (0 : Int) ≤ (d2 : Int) := by omega
    have q5 : (d2 : Int) < 1000 := by omega
    have e0 : wr.cell? ⟨g, d2, none⟩ = some (.int .i64 (hoursTo wk ex d2 ex.length)) := by
      have h9 : d2 < (hoursRow wk ex ex.length).length := by rw [hoursRow_len]; omega
      have h8 := hoursRow_at wk ex ex.length d2 (by omega)
      rw [List.getD_eq_getElem?_getD, List.getElem?_eq_getElem h9, Option.getD_some] at h8
      rw [hN.cell h9, h8]
    have q6 : IntKind.i64.wrap ((d2 : Int) - 1) = (d2 : Int) - 1 := IntWalk.i64_in _ (by omega)
    by_cases hw : 0 < hoursTo wk ex d2 ex.length
    · have HX : Hid (backD (fun d => hoursTo wk ex d ex.length) d2 k2 = backD (fun d => hoursTo wk ex d ex.length) dn kn) := by
        show _ = _
        rw [← HI.out, backD_work (fun d => hoursTo wk ex d ex.length) _ _ hw]
      have q7 : IntKind.i64.wrap (((k2 + 1 : Nat) : Int) - (kn : Int) - 1) = (k2 : Int) - (kn : Int) := by
        rw [show ((k2 + 1 : Nat) : Int) - (kn : Int) - 1 = (k2 : Int) - (kn : Int) by omega]; exact IntWalk.i64_in _ (by omega)
      by_cases hz : k2 = 0
      · subst hz
        have HF : Hid (addWd wk ex (dn : Int) (-(kn : Int)) = ((d2 : Int), true)) := by
          show _ = _
          rw [HALL.out, ← HX.out, backD_zero]; rfl
        have q8 : (((0 : Nat) : Int) - (kn : Int) == -(kn : Int)) = true := by simp
        go_wp2_with fail
        go_ret2
        exact pairI_mk HF.out hb0
      · have q8 : ((k2 : Int) - (kn : Int) == -(kn : Int)) = false := by rw [beq_eq_false_iff_ne]; omega
        go_wp2_with fail
        go_roundw
        case rel => exact ⟨d2, k2, by omega, by omega, by omega, rfl, congrArg (Value.int .i64) (by omega), HX.out, hN, hb0⟩
        case measure => simp [intOf]
    · have HX : Hid (backD (fun d => hoursTo wk ex d ex.length) d2 (k2 + 1) = backD (fun d => hoursTo wk ex d ex.length) dn kn) := by
        show _ = _
        rw [← HI.out, backD_free (fun d => hoursTo wk ex d ex.length) _ _ hw]
      have q8 : (((k2 + 1 : Nat) : Int) - (kn : Int) == -(kn : Int)) = false := by rw [beq_eq_false_iff_ne]; omega
      go_wp2_with fail
      go_roundw
      case rel => exact ⟨d2, k2 + 1, by omega, by omega, by omega, rfl, rfl, HX.out, hN, hb0⟩
      case measure => simp [intOf]
end Go.Proofs.Ytpbibkjcjgggdaa
