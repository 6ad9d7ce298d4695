/- Part 21 of the texts of this claim: The walks of AddWorkdays, backwards; The walks of GrossOf and NetOf; The walks of FlowUpTo, SpareOn, LackOf, IsKept. -/
import Derived.Test.YtlnkofnfgemfdaaGreatIp20
import Derived.Test.YtlnkofnfgemfdaaGreatIp11
import Derived.Test.YtlnkofnfgemfdaaGreatIp14
import Derived.Test.YtlnkofnfgemfdaaGreatIp3
import Derived.Test.YtlnkofnfgemfdaaGreatIp4
import Derived.Deep.RegionHeld3
/- The walks of AddWorkdays, backwards. -/
namespace Go.Proofs.YtlnkofnfgemfdaaGreat
open Go.RowKit
/-- k workdays back from day d. -/
def backD (h : Nat → Int) : Nat → Nat → Option Nat
  | d, 0 => some d
  | 0, _ + 1 => none
  | d + 1, k + 1 => if 0 < h d then backD h d k else backD h d (k + 1)
theorem backD_zero (h : Nat → Int) (d : Nat) : backD h d 0 = some d := by cases d <;> rfl
theorem backD_none (h : Nat → Int) (k : Nat) : backD h 0 (k + 1) = none := rfl
theorem backD_work (h : Nat → Int) (d k : Nat) (hd : 0 < h d) : backD h (d + 1) (k + 1) = backD h d k := by simp only [backD]; rw [if_pos hd]
theorem backD_free (h : Nat → Int) (d k : Nat) (hd : ¬ 0 < h d) : backD h (d + 1) (k + 1) = backD h d (k + 1) := by simp only [backD]; rw [if_neg hd]
theorem backD_le (h : Nat → Int) : ∀ (d k x : Nat), backD h d k = some x → x ≤ d
  | d, 0, x, e => by rw [backD_zero] at e; have := Option.some.inj e; omega
  | 0, k + 1, x, e => by cases e
  | d + 1, k + 1, x, e => by
    by_cases hd : 0 < h d
    · rw [backD_work h d k hd] at e; have := backD_le h d k x e; omega
    · rw [backD_free h d k hd] at e; have := backD_le h d (k + 1) x e; omega
def pairO (o : Option Nat) : Int × Bool := match o with
  | some d => ((d : Int), true)
  | none => (0, false)
def addWd (wk : List Int) (ex : List (Int × Int)) (day n : Int) : Int × Bool :=
  if (isCal wk ex && inB day 0 999) = true then pairO (backD (fun d => hoursTo wk ex d ex.length) day.toNat (-n).toNat) else (0, false)
theorem addWd_no {wk : List Int} {ex : List (Int × Int)} {day n : Int} (h : (isCal wk ex && inB day 0 999) = false) : addWd wk ex day n = (0, false) := by unfold addWd; rw [if_neg (by rw [h]; decide)]
theorem addWd_yes {wk : List Int} {ex : List (Int × Int)} {dn kn : Nat} (h1 : isCal wk ex = true) (h2 : inB (dn : Int) 0 999 = true) : addWd wk ex (dn : Int) (-(kn : Int)) = pairO (backD (fun d => hoursTo wk ex d ex.length) dn kn) := by
  unfold addWd
  rw [if_pos (by rw [h1, h2]; rfl)]
  rw [Int.neg_neg, Int.toNat_natCast, Int.toNat_natCast]
theorem addWd_bd (wk : List Int) (ex : List (Int × Int)) (day n : Int) : 0 ≤ (addWd wk ex day n).1 ∧ (addWd wk ex day n).1 ≤ 999 := by
  unfold addWd
  split
  · next h =>
    simp only [Bool.and_eq_true, inB_iff] at h
    cases hb : backD (fun d => hoursTo wk ex d ex.length) day.toNat (-n).toNat with
    | none => simp [pairO]
    | some d =>
      have := backD_le _ _ _ _ hb
      simp only [pairO]
      omega
  · simp
def PairI (w : World) (q : Int × Bool) (e : Ending) (w' : World) : Prop := e = .returned (.tuple #[.int .i64 q.1, .bool q.2]) ∧ Below w.heap.size w w'
theorem pairI_mk {w w' : World} {q : Int × Bool} {a : Int} {b : Bool} (h : q = (a, b)) (hb : Below w.heap.size w w') : PairI w q (.returned (.tuple #[.int .i64 a, .bool b])) w' := by subst h; exact ⟨rfl, hb⟩
set_option maxRecDepth 100000 in
set_option maxHeartbeats 4000000 in
theorem specAddWorkdays_any (A B : Option Addr) (n m c d : Nat) (wk : List Int) (ex : List Ex) (day : Int) (kn : Nat) (w : World) (ha : IntsIn w A n wk) (hb : ExsIn w B m ex) (hkn : kn ≤ 1000000) :
    Calls Tryz.prog 45 #[.agg #[.slice A n c, .slice B m d], .int .i64 day, .int .i64 (-(kn : Int))] w (PairI w (addWd wk ex day (-(kn : Int)))) := by
  have hb0 := below_alloc w (.cells #[.slice A n c, .slice B m d] 43)
  have B0 : BoxOf (w.alloc (.cells #[.slice A n c, .slice B m d] 43)) w.heap.size [.slice A n c, .slice B m d] := boxOf_alloc w #[.slice A n c, .slice B m d] 43
  cases hc : isCal wk ex
  · have HF : Hid (addWd wk ex day (-(kn : Int)) = (0, false)) := addWd_no (by rw [hc]; rfl)
    obtain ⟨g0, g1, gl⟩ := B0.two
    go_enter Tryz.func45, Tryz.ntmps45
    go_wp2_with fail
    generalize w.alloc (.cells #[.slice A n c, .slice B m d] 43) = V at *
    refine (specIsCalendar_any _ _ _ _ _ _ wk ex _ (ha.keep hb0) (hb.keep hb0)).mono ?_
    rintro e V1 ⟨rfl, hs⟩
    rw [hc]
    go_wp2_with fail
    go_ret2
    exact pairI_mk HF.out (below_on hb0 hs)
  cases hd : inB day 0 999
  · have HF : Hid (addWd wk ex day (-(kn : Int)) = (0, false)) := addWd_no (by rw [hc, hd]; rfl)
    obtain ⟨g0, g1, gl⟩ := B0.two
    go_enter Tryz.func45, Tryz.ntmps45
    go_wp2_with fail
    generalize w.alloc (.cells #[.slice A n c, .slice B m d] 43) = V at *
    refine (specIsCalendar_any _ _ _ _ _ _ wk ex _ (ha.keep hb0) (hb.keep hb0)).mono ?_
    rintro e V1 ⟨rfl, hs⟩
    rw [hc]
    go_wp2_with fail
    refine (l1In_any _ _ _ _).mono ?_
    rintro e V2 ⟨rfl, rfl⟩
    rw [hd]
    go_wp2_with fail
    go_ret2
    exact pairI_mk HF.out (below_on hb0 hs)
  have hdd := inB_iff.1 hd
  obtain ⟨dn, rfl⟩ : ∃ dn : Nat, day = (dn : Int) := ⟨day.toNat, by omega⟩
  have HALL := Lib.hid (addWd_yes (kn := kn) hc hd)
  have HB := Lib.hid (fun (j : Nat) => hoursTo_bd hc j ex.length (Nat.le_refl _))
  obtain ⟨g0, g1, gl⟩ := B0.two
  go_enter Tryz.func45, Tryz.ntmps45
  go_wp2_with fail
  generalize w.alloc (.cells #[.slice A n c, .slice B m d] 43) = V at *
  refine (specIsCalendar_any _ _ _ _ _ _ wk ex _ (ha.keep hb0) (hb.keep hb0)).mono ?_
  rintro e V1 ⟨rfl, hs⟩
  rw [hc]
  replace hb0 := below_on hb0 hs
  replace B0 := B0.keep hs
  clear hs g0 g1 gl
  go_wp2_with fail
  refine (l1In_any _ _ _ _).mono ?_
  rintro e V2 ⟨rfl, rfl⟩
  rw [hd]
  have hk0 : ¬ (0 : Int) < -(kn : Int) := by omega
  have hk1 : decide ((0 : Int) < -(kn : Int)) = false := decide_eq_false hk0
  go_wp2_with fail
  refine wp_loop_rounds 1 ?_
  rw [rounds_succ]
  go_wp2_with fail
  clear hk0 hk1
  have hdl : dn ≤ 999 := by omega
  go_loopw [8, 9] (fun a b wr => ∃ d1 k1 : Nat, d1 ≤ dn ∧ k1 ≤ kn ∧ a = .int .i64 d1 ∧ b = .int .i64 (-(k1 : Int)) ∧ Hid (backD (fun d => hoursTo wk ex d ex.length) d1 k1 = backD (fun d => hoursTo wk ex d ex.length) dn kn) ∧ BoxOf wr w.heap.size [.slice A n c, .slice B m d] ∧ Below w.heap.size w wr) (fun a _ _ => (intOf a).toNat)
  case atStart => exact ⟨dn, kn, Nat.le_refl _, Nat.le_refl _, rfl, rfl, rfl, B0, hb0⟩
  case round =>
    clear B0 hb0
    obtain ⟨d1, k1, hd1, hk1, rfl, rfl, HI, B0, hb0⟩ := hrel
    by_cases hkz : k1 = 0
    · subst hkz
      have HF : Hid (addWd wk ex (dn : Int) (-(kn : Int)) = ((d1 : Int), true)) := by
        show _ = _
        rw [HALL.out, ← HI.out, backD_zero]; rfl
      have q1 : decide ((-((0 : Nat) : Int)) < 0) = false := by decide
      have q2 : ¬ (999 : Int) < (d1 : Int) := by omega
      go_wp2_with fail
      go_ret2
      exact pairI_mk HF.out hb0
    have e1 : -(k1 : Int) < 0 := by omega
    by_cases hdz : d1 = 0
    · subst hdz
      have HF : Hid (addWd wk ex (dn : Int) (-(kn : Int)) = (0, false)) := by
        show _ = _
        obtain ⟨k2, rfl⟩ : ∃ k2, k1 = k2 + 1 := ⟨k1 - 1, by omega⟩
        rw [HALL.out, ← HI.out, backD_none]; rfl
      have q1 : (-(k1 : Int) != 0) = true := by rw [bne_iff_ne]; omega
      go_wp2_with fail
      go_ret2
      exact pairI_mk HF.out hb0
    obtain ⟨d2, rfl⟩ : ∃ d2, d1 = d2 + 1 := ⟨d1 - 1, by omega⟩
    obtain ⟨k2, rfl⟩ : ∃ k2, k1 = k2 + 1 := ⟨k1 - 1, by omega⟩
    have q2 : (0 : Int) < ((d2 + 1 : Nat) : Int) := by omega
    have q3 : (((d2 + 1 : Nat) : Int)) - 1 = (d2 : Int) := by omega
    have q4 : IntKind.i64.wrap (((d2 + 1 : Nat) : Int) - 1) = (d2 : Int) := by rw [q3]; exact IntWalk.i64_in _ (by omega)
    obtain ⟨g0, g1, gl⟩ := B0.two
    obtain ⟨h1, h2⟩ := HB.out d2
    obtain ⟨mv, hmv, hmw⟩ : ∃ mv : Int, (if (1 : Int) < hoursTo wk ex d2 ex.length then 1 else hoursTo wk ex d2 ex.length) = mv ∧ mv = (if 0 < hoursTo wk ex d2 ex.length then 1 else 0) := ⟨_, rfl, by split <;> split <;> omega⟩
    have HMW := Lib.hid hmw
    clear hmw q3
    go_wp2_with fail
    refine (specL4Hours_any _ _ _ _ _ _ wk ex d2 _ (ha.keep hb0) (hb.keep hb0) hc (by omega)).mono ?_
    rintro e V3 ⟨rfl, hs⟩
    have B3 := B0.keep hs
    have hb3 := below_on hb0 hs
    clear hs g0 g1 gl
    by_cases hw : 0 < hoursTo wk ex d2 ex.length
    · have HX : Hid (backD (fun d => hoursTo wk ex d ex.length) d2 k2 = backD (fun d => hoursTo wk ex d ex.length) dn kn) := by
        show _ = _
        rw [← HI.out, backD_work (fun d => hoursTo wk ex d ex.length) _ _ hw]
      have hm1 : mv = 1 := by rw [HMW.out, if_pos hw]
      subst hm1
      have q5 : IntKind.i64.wrap (-((k2 + 1 : Nat) : Int) + 1) = -(k2 : Int) := by
        rw [show -((k2 + 1 : Nat) : Int) + 1 = -(k2 : Int) by omega]; exact IntWalk.i64_in _ (by omega)
      clear hw
      go_wp2_with fail
      go_roundw
      case rel => exact ⟨d2, k2, by omega, by omega, rfl, by first | rfl | go_num, HX.out, B3, hb3⟩
      case measure => simp [intOf]
    · have HX : Hid (backD (fun d => hoursTo wk ex d ex.length) d2 (k2 + 1) = backD (fun d => hoursTo wk ex d ex.length) dn kn) := by
        show _ = _
        rw [← HI.out, backD_free (fun d => hoursTo wk ex d ex.length) _ _ hw]
      have hm1 : mv = 0 := by rw [HMW.out, if_neg hw]
      subst hm1
      have q5 : IntKind.i64.wrap (-((k2 + 1 : Nat) : Int) + 0) = -((k2 + 1 : Nat) : Int) := by
        rw [Int.add_zero]; exact IntWalk.i64_in _ (by omega)
      clear hw
      go_wp2_with fail
      go_roundw
      case rel => exact ⟨d2, k2 + 1, by omega, by omega, rfl, by first | rfl | go_num, HX.out, B3, hb3⟩
      case measure => simp [intOf]
set_option maxRecDepth 100000 in
set_option maxHeartbeats 4000000 in
theorem implAddWorkdays_any (A B : Option Addr) (n m c d : Nat) (wk : List Int) (ex : List Ex) (day : Int) (kn : Nat) (w : World) (ha : IntsIn w A n wk) (hb : ExsIn w B m ex) (hkn : kn ≤ 1000000) :
    Calls Tryz.prog 123 #[.agg #[.slice A n c, .slice B m d], .int .i64 day, .int .i64 (-(kn : Int))] w (PairI w (addWd wk ex day (-(kn : Int)))) := by
  have hb0 := below_alloc w (.cells #[.slice A n c, .slice B m d] 43)
  have B0 : BoxOf (w.alloc (.cells #[.slice A n c, .slice B m d] 43)) w.heap.size [.slice A n c, .slice B m d] := boxOf_alloc w #[.slice A n c, .slice B m d] 43
  cases hc : isCal wk ex
  · have HF : Hid (addWd wk ex day (-(kn : Int)) = (0, false)) := addWd_no (by rw [hc]; rfl)
    obtain ⟨g0, g1, gl⟩ := B0.two
    go_enter Tryz.func123, Tryz.ntmps123
    go_wp2_with fail
    generalize w.alloc (.cells #[.slice A n c, .slice B m d] 43) = V at *
    refine (implIsCalendar_any _ _ _ _ _ _ wk ex _ (ha.keep hb0) (hb.keep hb0)).mono ?_
    rintro e V1 ⟨rfl, hs⟩
    rw [hc]
    go_wp2_with fail
    go_ret2
    exact pairI_mk HF.out (below_on hb0 hs)
  cases hd : inB day 0 999
  · have HF : Hid (addWd wk ex day (-(kn : Int)) = (0, false)) := addWd_no (by rw [hc, hd]; rfl)
    obtain ⟨g0, g1, gl⟩ := B0.two
    go_enter Tryz.func123, Tryz.ntmps123
    go_wp2_with fail
    generalize w.alloc (.cells #[.slice A n c, .slice B m d] 43) = V at *
    refine (implIsCalendar_any _ _ _ _ _ _ wk ex _ (ha.keep hb0) (hb.keep hb0)).mono ?_
    rintro e V1 ⟨rfl, hs⟩
    rw [hc]
    go_wp2_with fail
    refine (in_any _ _ _ _).mono ?_
    rintro e V2 ⟨rfl, rfl⟩
    rw [hd]
    go_wp2_with fail
    go_ret2
    exact pairI_mk HF.out (below_on hb0 hs)
  have hdd := inB_iff.1 hd
  obtain ⟨dn, rfl⟩ : ∃ dn : Nat, day = (dn : Int) := ⟨day.toNat, by omega⟩
  have HALL := Lib.hid (addWd_yes (kn := kn) hc hd)
  obtain ⟨g0, g1, gl⟩ := B0.two
  go_enter Tryz.func123, Tryz.ntmps123
  go_wp2_with fail
  generalize w.alloc (.cells #[.slice A n c, .slice B m d] 43) = V at *
  refine (implIsCalendar_any _ _ _ _ _ _ wk ex _ (ha.keep hb0) (hb.keep hb0)).mono ?_
  rintro e V1 ⟨rfl, hs⟩
  rw [hc]
  replace hb0 := below_on hb0 hs
  replace B0 := B0.keep hs
  clear hs g0 g1 gl
  obtain ⟨g0, g1, gl⟩ := B0.two
  go_wp2_with fail
  refine (in_any _ _ _ _).mono ?_
  rintro e V2 ⟨rfl, rfl⟩
  rw [hd]
  go_wp2_with fail
  refine (implHours_any _ _ _ _ _ _ wk ex _ (ha.keep hb0) (hb.keep hb0) hc).mono ?_
  rintro e V3 ⟨g, rfl, hN, hs⟩
  replace hb0 := below_on hb0 hs
  clear hs g0 g1 gl B0
  have hdl : dn ≤ 999 := by omega
  by_cases hkz : kn = 0
  · subst hkz
    have HF : Hid (addWd wk ex (dn : Int) (-((0 : Nat) : Int)) = ((dn : Int), true)) := by
      show _ = _
      rw [HALL.out, backD_zero]; rfl
    have q0 : (-((0 : Nat) : Int)) = 0 := by decide
    have q1 : (dn : Int) ≤ 999 := by omega
    rw [q0] at HF ⊢
    go_wp2_with fail
    refine wp_loop_rounds 1 ?_
    rw [rounds_succ]
    go_wp2_with fail
    go_ret2
    exact pairI_mk HF.out hb0
  have q0 : ¬ (0 : Int) ≤ -(kn : Int) := by omega
  have q9 : IntKind.i64.wrap ((dn : Int) - 1) = (dn : Int) - 1 := IntWalk.i64_in _ (by omega)
  go_wp2_with fail
  have hkn1 : 1 ≤ kn := by omega
  clear q0 q9 hkz
  go_loopw [9, 11] (fun b a wr => ∃ d1 k1 : Nat, d1 ≤ dn ∧ 1 ≤ k1 ∧ k1 ≤ kn ∧ a = .int .i64 ((d1 : Int) - 1) ∧ b = .int .i64 ((k1 : Int) - (kn : Int)) ∧ Hid (backD (fun d => hoursTo wk ex d ex.length) d1 k1 = backD (fun d => hoursTo wk ex d ex.length) dn kn) ∧ NumRow wr V1.heap.size g 1000 1000 (hoursRow wk ex ex.length) ∧ Below w.heap.size w wr) (fun _ a _ => (intOf a + 1).toNat)
  case atStart => exact ⟨dn, kn, Nat.le_refl _, hkn1, Nat.le_refl _, rfl, congrArg (Value.int .i64) (by omega), rfl, hN, hb0⟩
  case round =>
    clear hN hb0
    obtain ⟨d1, k1, hd1, hk1, hk2, rfl, rfl, HI, hN, hb0⟩ := hrel
    by_cases hdz : d1 = 0
    · subst hdz
      have HF : Hid (addWd wk ex (dn : Int) (-(kn : Int)) = (0, false)) := by
        show _ = _
        obtain ⟨k2, rfl⟩ : ∃ k2, k1 = k2 + 1 := ⟨k1 - 1, by omega⟩
        rw [HALL.out, ← HI.out, backD_none]; rfl
      have q1 : ¬ (0 : Int) ≤ ((0 : Nat) : Int) - 1 := by decide
      go_wp2_with fail
      go_ret2
      exact pairI_mk HF.out hb0
    obtain ⟨d2, rfl⟩ : ∃ d2, d1 = d2 + 1 := ⟨d1 - 1, by omega⟩
    obtain ⟨k2, rfl⟩ : ∃ k2, k1 = k2 + 1 := ⟨k1 - 1, by omega⟩
    have q3 : (((d2 + 1 : Nat) : Int)) - 1 = (d2 : Int) := by omega
    rw [q3]
    have q4 : (0 : Int) ≤ (d2 : Int) := by omega
    have q5 : (d2 : Int) < 1000 := by omega
    have e0 : wr.cell? ⟨g, d2, none⟩ = some (.int .i64 (hoursTo wk ex d2 ex.length)) := by
      have h9 : d2 < (hoursRow wk ex ex.length).length := by rw [hoursRow_len]; omega
      have h8 := hoursRow_at wk ex ex.length d2 (by omega)
      rw [List.getD_eq_getElem?_getD, List.getElem?_eq_getElem h9, Option.getD_some] at h8
      rw [hN.cell h9, h8]
    have q6 : IntKind.i64.wrap ((d2 : Int) - 1) = (d2 : Int) - 1 := IntWalk.i64_in _ (by omega)
    by_cases hw : 0 < hoursTo wk ex d2 ex.length
    · have HX : Hid (backD (fun d => hoursTo wk ex d ex.length) d2 k2 = backD (fun d => hoursTo wk ex d ex.length) dn kn) := by
        show _ = _
        rw [← HI.out, backD_work (fun d => hoursTo wk ex d ex.length) _ _ hw]
      have q7 : IntKind.i64.wrap (((k2 + 1 : Nat) : Int) - (kn : Int) - 1) = (k2 : Int) - (kn : Int) := by
        rw [show ((k2 + 1 : Nat) : Int) - (kn : Int) - 1 = (k2 : Int) - (kn : Int) by omega]; exact IntWalk.i64_in _ (by omega)
      by_cases hz : k2 = 0
      · subst hz
        have HF : Hid (addWd wk ex (dn : Int) (-(kn : Int)) = ((d2 : Int), true)) := by
          show _ = _
          rw [HALL.out, ← HX.out, backD_zero]; rfl
        have q8 : (((0 : Nat) : Int) - (kn : Int) == -(kn : Int)) = true := by simp
        go_wp2_with fail
        go_ret2
        exact pairI_mk HF.out hb0
      · have q8 : ((k2 : Int) - (kn : Int) == -(kn : Int)) = false := by rw [beq_eq_false_iff_ne]; omega
        go_wp2_with fail
        go_roundw
        case rel => exact ⟨d2, k2, by omega, by omega, by omega, rfl, congrArg (Value.int .i64) (by omega), HX.out, hN, hb0⟩
        case measure => simp [intOf]
    · have HX : Hid (backD (fun d => hoursTo wk ex d ex.length) d2 (k2 + 1) = backD (fun d => hoursTo wk ex d ex.length) dn kn) := by
        show _ = _
        rw [← HI.out, backD_free (fun d => hoursTo wk ex d ex.length) _ _ hw]
      have q8 : (((k2 + 1 : Nat) : Int) - (kn : Int) == -(kn : Int)) = false := by rw [beq_eq_false_iff_ne]; omega
      go_wp2_with fail
      go_roundw
      case rel => exact ⟨d2, k2 + 1, by omega, by omega, by omega, rfl, rfl, HX.out, hN, hb0⟩
      case measure => simp [intOf]
end Go.Proofs.YtlnkofnfgemfdaaGreat
/- The walks of GrossOf and NetOf. -/
namespace Go.Proofs.YtlnkofnfgemfdaaGreat
open Go.RowKit
theorem flo_a (n d : Int) (hd : 1 ≤ d) (h : n.tmod d < 0) : n.tdiv d - 1 = n / d := by
  have h1 := @Int.tdiv_eq_ediv n d
  have h2 := @Int.tmod_eq_emod n d
  have h3 : ¬ (0 ≤ n ∨ d ∣ n) := by
    intro hc
    rw [if_pos hc] at h2
    have := Int.emod_nonneg n (show d ≠ 0 by omega)
    omega
  rw [if_neg h3, Int.sign_eq_one_of_pos (by omega)] at h1
  omega
theorem flo_b (n d : Int) (hd : 1 ≤ d) (h : 0 ≤ n.tmod d) : n.tdiv d = n / d := by
  have h1 := @Int.tdiv_eq_ediv n d
  have h2 := @Int.tmod_eq_emod n d
  have h3 : (0 ≤ n ∨ d ∣ n) := by
    by_cases hc : (0 ≤ n ∨ d ∣ n)
    · exact hc
    · rw [if_neg hc] at h2
      have := Int.emod_lt_of_pos n (show 0 < d by omega)
      omega
  rw [if_pos h3] at h1
  omega
theorem tdiv_bd (n d B : Int) (h1 : -B ≤ n) (h2 : n ≤ B) : -B ≤ n.tdiv d ∧ n.tdiv d ≤ B := by
  have h3 : (n.tdiv d).natAbs ≤ n.natAbs := by rw [Int.natAbs_tdiv]; exact Nat.div_le_self _ _
  omega
/-- How many must be begun so that q are good. -/
def grossQ (q s : Int) : Int := -((-(q * 100)) / (100 - s))
def grossOf (x : It) (q : Int) : Int × Bool := if (isItem x && inB q 0 1000000000) = true then (grossQ q x.2.2.2.2.2.2.2, true) else (0, false)
def netOf (x : It) (g : Int) : Int × Bool := if (isItem x && inB g 0 2000000000) = true then (g * (100 - x.2.2.2.2.2.2.2) / 100, true) else (0, false)
theorem grossOf_no {x : It} {q : Int} (h : (isItem x && inB q 0 1000000000) = false) : grossOf x q = (0, false) := by unfold grossOf; rw [if_neg (by rw [h]; decide)]
theorem grossOf_yes {x : It} {q : Int} (h1 : isItem x = true) (h2 : inB q 0 1000000000 = true) : grossOf x q = (grossQ q x.2.2.2.2.2.2.2, true) := by unfold grossOf; rw [if_pos (by rw [h1, h2]; rfl)]
theorem netOf_no {x : It} {q : Int} (h : (isItem x && inB q 0 2000000000) = false) : netOf x q = (0, false) := by unfold netOf; rw [if_neg (by rw [h]; decide)]
theorem netOf_yes {x : It} {q : Int} (h1 : isItem x = true) (h2 : inB q 0 2000000000 = true) : netOf x q = (q * (100 - x.2.2.2.2.2.2.2) / 100, true) := by unfold netOf; rw [if_pos (by rw [h1, h2]; rfl)]
theorem grossQ_bd {q s : Int} (h1 : 0 ≤ q) (h2 : q ≤ 1000000000) (h3 : 0 ≤ s) (h4 : s ≤ 50) : -2000000001 ≤ (-(q * 100)) / (100 - s) ∧ (-(q * 100)) / (100 - s) ≤ 0 := by
  have hd : 0 < 100 - s := by omega
  constructor
  · rw [Int.le_ediv_iff_mul_le hd]
    have : -2000000001 * (100 - s) ≤ -2000000001 * 50 := Int.mul_le_mul_of_nonpos_left (by omega) (by omega)
    omega
  · exact Int.ediv_le_of_le_mul hd (by omega)
/-- What is begun gives at least what is asked. -/
theorem gross_net {q s : Int} (h1 : 0 ≤ q) (h3 : 0 ≤ s) (h4 : s ≤ 50) : q ≤ grossQ q s * (100 - s) / 100 := by
  have hd : 0 < 100 - s := by omega
  rw [Int.le_ediv_iff_mul_le (by omega)]
  unfold grossQ
  have e1 := Int.mul_ediv_add_emod (-(q * 100)) (100 - s)
  have e2 := Int.emod_nonneg (-(q * 100)) (show 100 - s ≠ 0 by omega)
  rw [Int.neg_mul, Int.mul_comm ((-(q * 100)) / (100 - s)) (100 - s)]
  omega
set_option maxRecDepth 100000 in
theorem l2Floor_all (n d : Int) (w : World) (h1 : -1000000000000 ≤ n) (h2 : n ≤ 1000000000000) (h3 : 1 ≤ d) (h4 : d ≤ 1000) : Calls Tryz.prog 106 #[.int .i64 n, .int .i64 d] w fun e w' => e = .returned (.int .i64 (n / d)) ∧ w = w' := by
  obtain ⟨b2, b3⟩ := tdiv_bd n d 1000000000000 h1 h2
  by_cases hm : n.tmod d < 0
  · have HF := Lib.hid (flo_a n d h3 hm)
    go_enter Tryz.func106, Tryz.ntmps106
    go_wp2
    go_ret
    exact ⟨ret_int HF.out, rfl⟩
  · have HF := Lib.hid (flo_b n d h3 (by omega))
    go_enter Tryz.func106, Tryz.ntmps106
    go_wp2
    go_ret
    exact ⟨ret_int HF.out, rfl⟩
set_option maxRecDepth 100000 in
theorem floorOf_all (n d : Int) (w : World) (h1 : -1000000000000 ≤ n) (h2 : n ≤ 1000000000000) (h3 : 1 ≤ d) (h4 : d ≤ 1000) : Calls Tryz.prog 150 #[.int .i64 n, .int .i64 d] w fun e w' => e = .returned (.int .i64 (n / d)) ∧ w = w' := by
  obtain ⟨b2, b3⟩ := tdiv_bd n d 1000000000000 h1 h2
  by_cases hm : n.tmod d < 0
  · have HF := Lib.hid (flo_a n d h3 hm)
    go_enter Tryz.func150, Tryz.ntmps150
    go_wp2
    go_ret
    exact ⟨ret_int HF.out, rfl⟩
  · have HF := Lib.hid (flo_b n d h3 (by omega))
    go_enter Tryz.func150, Tryz.ntmps150
    go_wp2
    go_ret
    exact ⟨ret_int HF.out, rfl⟩
set_option maxRecDepth 100000 in
theorem ceilOf_all (n d : Int) (w : World) (h1 : 0 ≤ n) (h2 : n ≤ 100000000000) (h3 : 1 ≤ d) (h4 : d ≤ 1000) (h5 : -1000000000000 ≤ (-n) / d) (h6 : (-n) / d ≤ 0) : Calls Tryz.prog 121 #[.int .i64 n, .int .i64 d] w fun e w' => e = .returned (.int .i64 (-((-n) / d))) ∧ w = w' := by
  go_enter Tryz.func121, Tryz.ntmps121
  go_wp2_with fail
  refine (floorOf_all _ _ _ (by omega) (by omega) h3 h4).mono ?_
  rintro e w' ⟨rfl, rfl⟩
  go_wp2_with fail
  go_ret
  exact ⟨rfl, rfl⟩
set_option maxRecDepth 100000 in
set_option maxHeartbeats 1000000 in
theorem specGrossOf_any (x : It) (q : Int) (w : World) (hok : okIt x) : Calls Tryz.prog 44 #[.agg #[.string x.1, .string x.2.1, .int .i64 x.2.2.1, .int .i64 x.2.2.2.1, .int .i64 x.2.2.2.2.1, .int .i64 x.2.2.2.2.2.1, .int .i64 x.2.2.2.2.2.2.1, .int .i64 x.2.2.2.2.2.2.2], .int .i64 q] w (PairI w (grossOf x q)) := by
  have hb := below_alloc w (.cells #[.string x.1, .string x.2.1, .int .i64 x.2.2.1, .int .i64 x.2.2.2.1, .int .i64 x.2.2.2.2.1, .int .i64 x.2.2.2.2.2.1, .int .i64 x.2.2.2.2.2.2.1, .int .i64 x.2.2.2.2.2.2.2] 81)
  have B0 : BoxOf (w.alloc (.cells #[.string x.1, .string x.2.1, .int .i64 x.2.2.1, .int .i64 x.2.2.2.1, .int .i64 x.2.2.2.2.1, .int .i64 x.2.2.2.2.2.1, .int .i64 x.2.2.2.2.2.2.1, .int .i64 x.2.2.2.2.2.2.2] 81)) w.heap.size [.string x.1, .string x.2.1, .int .i64 x.2.2.1, .int .i64 x.2.2.2.1, .int .i64 x.2.2.2.2.1, .int .i64 x.2.2.2.2.2.1, .int .i64 x.2.2.2.2.2.2.1, .int .i64 x.2.2.2.2.2.2.2] := boxOf_alloc w #[.string x.1, .string x.2.1, .int .i64 x.2.2.1, .int .i64 x.2.2.2.1, .int .i64 x.2.2.2.2.1, .int .i64 x.2.2.2.2.2.1, .int .i64 x.2.2.2.2.2.2.1, .int .i64 x.2.2.2.2.2.2.2] 81
  cases hi : isItem x
  · have HF : Hid (grossOf x q = (0, false)) := grossOf_no (by rw [hi]; rfl)
    go_enter Tryz.func44, Tryz.ntmps44
    have e7 := B0.2 7 _ rfl
    go_wp2_with fail
    generalize (w.alloc (.cells #[.string x.1, .string x.2.1, .int .i64 x.2.2.1, .int .i64 x.2.2.2.1, .int .i64 x.2.2.2.2.1, .int .i64 x.2.2.2.2.2.1, .int .i64 x.2.2.2.2.2.2.1, .int .i64 x.2.2.2.2.2.2.2] 81)) = V at *
    refine (specIsItem_at x _ hok).mono ?_
    rintro e V1 ⟨rfl, hs⟩
    rw [hi]
    replace hb := below_on hb hs
    replace B0 := B0.keep hs
    clear hs e7
    have e7 := B0.2 7 _ rfl
    have e0 := B0.2 0 _ rfl
    go_wp2_with fail
    go_ret2
    exact pairI_mk HF.out hb
  cases hq : inB q 0 1000000000
  · have HF : Hid (grossOf x q = (0, false)) := grossOf_no (by rw [hi, hq]; rfl)
    go_enter Tryz.func44, Tryz.ntmps44
    have e7 := B0.2 7 _ rfl
    go_wp2_with fail
    generalize (w.alloc (.cells #[.string x.1, .string x.2.1, .int .i64 x.2.2.1, .int .i64 x.2.2.2.1, .int .i64 x.2.2.2.2.1, .int .i64 x.2.2.2.2.2.1, .int .i64 x.2.2.2.2.2.2.1, .int .i64 x.2.2.2.2.2.2.2] 81)) = V at *
    refine (specIsItem_at x _ hok).mono ?_
    rintro e V1 ⟨rfl, hs⟩
    rw [hi]
    replace hb := below_on hb hs
    replace B0 := B0.keep hs
    clear hs e7
    have e7 := B0.2 7 _ rfl
    have e0 := B0.2 0 _ rfl
    go_wp2_with fail
    refine (l1In_any _ _ _ _).mono ?_
    rintro e V2 ⟨rfl, rfl⟩
    rw [hq]
    go_wp2_with fail
    go_ret2
    exact pairI_mk HF.out hb
  have HF := Lib.hid (grossOf_yes hi hq)
  have hq2 := inB_iff.1 hq
  obtain ⟨_, _, _, _, _, hs2, _⟩ := isItem_lots x hi
  obtain ⟨q1, q2⟩ := hq2
  obtain ⟨s1, s2⟩ := hs2
  obtain ⟨s, hsc⟩ : ∃ s, x.2.2.2.2.2.2.2 = s := ⟨_, rfl⟩
  have HSC := Lib.hid hsc
  rw [hsc] at s1 s2
  clear hsc
  obtain ⟨g1, g2⟩ := grossQ_bd q1 q2 s1 s2
  have HG : Hid (grossOf x q = (-((-(q * 100)) / (100 - s)), true)) := by show _ = _; rw [HF.out, HSC.out]; rfl
  go_enter Tryz.func44, Tryz.ntmps44
  have e7 := B0.2 7 _ rfl
  go_wp2_with fail
  generalize (w.alloc (.cells #[.string x.1, .string x.2.1, .int .i64 x.2.2.1, .int .i64 x.2.2.2.1, .int .i64 x.2.2.2.2.1, .int .i64 x.2.2.2.2.2.1, .int .i64 x.2.2.2.2.2.2.1, .int .i64 x.2.2.2.2.2.2.2] 81)) = V at *
  refine (specIsItem_at x _ hok).mono ?_
  rintro e V1 ⟨rfl, hs⟩
  rw [hi]
  replace hb := below_on hb hs
  replace B0 := B0.keep hs
  clear hs e7
  have e7 := B0.2 7 _ rfl
  have e0 := B0.2 0 _ rfl
  go_wp2_with fail
  refine (l1In_any _ _ _ _).mono ?_
  rintro e V2 ⟨rfl, rfl⟩
  rw [hq]
  clear e7 e0
  have e7 := B0.2 7 _ rfl
  rw [HSC.out] at e7
  have w1 : IntKind.i64.wrap (-q * 100) = -(q * 100) := by rw [Int.neg_mul]; exact IntWalk.i64_in _ (by omega)
  go_wp2_with fail
  refine (l2Floor_all _ _ _ (by omega) (by omega) (by omega) (by omega)).mono ?_
  rintro e V3 ⟨rfl, rfl⟩
  go_wp2_with fail
  go_ret2
  exact pairI_mk HG.out hb
set_option maxRecDepth 100000 in
set_option maxHeartbeats 1000000 in
theorem specNetOf_any (x : It) (q : Int) (w : World) (hok : okIt x) : Calls Tryz.prog 136 #[.agg #[.string x.1, .string x.2.1, .int .i64 x.2.2.1, .int .i64 x.2.2.2.1, .int .i64 x.2.2.2.2.1, .int .i64 x.2.2.2.2.2.1, .int .i64 x.2.2.2.2.2.2.1, .int .i64 x.2.2.2.2.2.2.2], .int .i64 q] w (PairI w (netOf x q)) := by
  have hb := below_alloc w (.cells #[.string x.1, .string x.2.1, .int .i64 x.2.2.1, .int .i64 x.2.2.2.1, .int .i64 x.2.2.2.2.1, .int .i64 x.2.2.2.2.2.1, .int .i64 x.2.2.2.2.2.2.1, .int .i64 x.2.2.2.2.2.2.2] 81)
  have B0 : BoxOf (w.alloc (.cells #[.string x.1, .string x.2.1, .int .i64 x.2.2.1, .int .i64 x.2.2.2.1, .int .i64 x.2.2.2.2.1, .int .i64 x.2.2.2.2.2.1, .int .i64 x.2.2.2.2.2.2.1, .int .i64 x.2.2.2.2.2.2.2] 81)) w.heap.size [.string x.1, .string x.2.1, .int .i64 x.2.2.1, .int .i64 x.2.2.2.1, .int .i64 x.2.2.2.2.1, .int .i64 x.2.2.2.2.2.1, .int .i64 x.2.2.2.2.2.2.1, .int .i64 x.2.2.2.2.2.2.2] := boxOf_alloc w #[.string x.1, .string x.2.1, .int .i64 x.2.2.1, .int .i64 x.2.2.2.1, .int .i64 x.2.2.2.2.1, .int .i64 x.2.2.2.2.2.1, .int .i64 x.2.2.2.2.2.2.1, .int .i64 x.2.2.2.2.2.2.2] 81
  cases hi : isItem x
  · have HF : Hid (netOf x q = (0, false)) := netOf_no (by rw [hi]; rfl)
    go_enter Tryz.func136, Tryz.ntmps136
    have e7 := B0.2 7 _ rfl
    go_wp2_with fail
    generalize (w.alloc (.cells #[.string x.1, .string x.2.1, .int .i64 x.2.2.1, .int .i64 x.2.2.2.1, .int .i64 x.2.2.2.2.1, .int .i64 x.2.2.2.2.2.1, .int .i64 x.2.2.2.2.2.2.1, .int .i64 x.2.2.2.2.2.2.2] 81)) = V at *
    refine (specIsItem_at x _ hok).mono ?_
    rintro e V1 ⟨rfl, hs⟩
    rw [hi]
    replace hb := below_on hb hs
    replace B0 := B0.keep hs
    clear hs e7
    have e7 := B0.2 7 _ rfl
    have e0 := B0.2 0 _ rfl
    go_wp2_with fail
    go_ret2
    exact pairI_mk HF.out hb
  cases hq : inB q 0 2000000000
  · have HF : Hid (netOf x q = (0, false)) := netOf_no (by rw [hi, hq]; rfl)
    go_enter Tryz.func136, Tryz.ntmps136
    have e7 := B0.2 7 _ rfl
    go_wp2_with fail
    generalize (w.alloc (.cells #[.string x.1, .string x.2.1, .int .i64 x.2.2.1, .int .i64 x.2.2.2.1, .int .i64 x.2.2.2.2.1, .int .i64 x.2.2.2.2.2.1, .int .i64 x.2.2.2.2.2.2.1, .int .i64 x.2.2.2.2.2.2.2] 81)) = V at *
    refine (specIsItem_at x _ hok).mono ?_
    rintro e V1 ⟨rfl, hs⟩
    rw [hi]
    replace hb := below_on hb hs
    replace B0 := B0.keep hs
    clear hs e7
    have e7 := B0.2 7 _ rfl
    have e0 := B0.2 0 _ rfl
    go_wp2_with fail
    refine (l1In_any _ _ _ _).mono ?_
    rintro e V2 ⟨rfl, rfl⟩
    rw [hq]
    go_wp2_with fail
    go_ret2
    exact pairI_mk HF.out hb
  have HF := Lib.hid (netOf_yes hi hq)
  have hq2 := inB_iff.1 hq
  obtain ⟨_, _, _, _, _, hs2, _⟩ := isItem_lots x hi
  obtain ⟨q1, q2⟩ := hq2
  obtain ⟨s1, s2⟩ := hs2
  obtain ⟨s, hsc⟩ : ∃ s, x.2.2.2.2.2.2.2 = s := ⟨_, rfl⟩
  have HSC := Lib.hid hsc
  rw [hsc] at s1 s2
  clear hsc
  have m1 : 0 ≤ q * (100 - s) := Int.mul_nonneg q1 (by omega)
  have m2 : q * (100 - s) ≤ 2000000000 * 100 := Int.mul_le_mul q2 (by omega) (by omega) (by omega)
  have w1 : IntKind.i64.wrap (q * (100 - s)) = q * (100 - s) := IntWalk.i64_in _ (by omega)
  have t1 : (q * (100 - s)).tdiv 100 = q * (100 - s) / 100 := Int.tdiv_eq_ediv_of_nonneg m1
  have HG : Hid (netOf x q = (q * (100 - s) / 100, true)) := by show _ = _; rw [HF.out, HSC.out]
  go_enter Tryz.func136, Tryz.ntmps136
  have e7 := B0.2 7 _ rfl
  go_wp2_with fail
  generalize (w.alloc (.cells #[.string x.1, .string x.2.1, .int .i64 x.2.2.1, .int .i64 x.2.2.2.1, .int .i64 x.2.2.2.2.1, .int .i64 x.2.2.2.2.2.1, .int .i64 x.2.2.2.2.2.2.1, .int .i64 x.2.2.2.2.2.2.2] 81)) = V at *
  refine (specIsItem_at x _ hok).mono ?_
  rintro e V1 ⟨rfl, hs⟩
  rw [hi]
  replace hb := below_on hb hs
  replace B0 := B0.keep hs
  clear hs e7
  have e7 := B0.2 7 _ rfl
  have e0 := B0.2 0 _ rfl
  go_wp2_with fail
  refine (l1In_any _ _ _ _).mono ?_
  rintro e V2 ⟨rfl, rfl⟩
  rw [hq]
  clear e7 e0
  have e7 := B0.2 7 _ rfl
  rw [HSC.out] at e7
  go_wp2_with fail
  go_ret2
  exact pairI_mk HG.out hb
set_option maxRecDepth 100000 in
set_option maxHeartbeats 1000000 in
theorem implGrossOf_any (x : It) (q : Int) (w : World) (hok : okIt x) : Calls Tryz.prog 60 #[.agg #[.string x.1, .string x.2.1, .int .i64 x.2.2.1, .int .i64 x.2.2.2.1, .int .i64 x.2.2.2.2.1, .int .i64 x.2.2.2.2.2.1, .int .i64 x.2.2.2.2.2.2.1, .int .i64 x.2.2.2.2.2.2.2], .int .i64 q] w (PairI w (grossOf x q)) := by
  have hb := below_alloc w (.cells #[.string x.1, .string x.2.1, .int .i64 x.2.2.1, .int .i64 x.2.2.2.1, .int .i64 x.2.2.2.2.1, .int .i64 x.2.2.2.2.2.1, .int .i64 x.2.2.2.2.2.2.1, .int .i64 x.2.2.2.2.2.2.2] 81)
  have B0 : BoxOf (w.alloc (.cells #[.string x.1, .string x.2.1, .int .i64 x.2.2.1, .int .i64 x.2.2.2.1, .int .i64 x.2.2.2.2.1, .int .i64 x.2.2.2.2.2.1, .int .i64 x.2.2.2.2.2.2.1, .int .i64 x.2.2.2.2.2.2.2] 81)) w.heap.size [.string x.1, .string x.2.1, .int .i64 x.2.2.1, .int .i64 x.2.2.2.1, .int .i64 x.2.2.2.2.1, .int .i64 x.2.2.2.2.2.1, .int .i64 x.2.2.2.2.2.2.1, .int .i64 x.2.2.2.2.2.2.2] := boxOf_alloc w #[.string x.1, .string x.2.1, .int .i64 x.2.2.1, .int .i64 x.2.2.2.1, .int .i64 x.2.2.2.2.1, .int .i64 x.2.2.2.2.2.1, .int .i64 x.2.2.2.2.2.2.1, .int .i64 x.2.2.2.2.2.2.2] 81
  cases hi : isItem x
  · have HF : Hid (grossOf x q = (0, false)) := grossOf_no (by rw [hi]; rfl)
    go_enter Tryz.func60, Tryz.ntmps60
    have e7 := B0.2 7 _ rfl
    go_wp2_with fail
    generalize (w.alloc (.cells #[.string x.1, .string x.2.1, .int .i64 x.2.2.1, .int .i64 x.2.2.2.1, .int .i64 x.2.2.2.2.1, .int .i64 x.2.2.2.2.2.1, .int .i64 x.2.2.2.2.2.2.1, .int .i64 x.2.2.2.2.2.2.2] 81)) = V at *
    refine (implIsItem_at x _ hok).mono ?_
    rintro e V1 ⟨rfl, hs⟩
    rw [hi]
    replace hb := below_on hb hs
    replace B0 := B0.keep hs
    clear hs e7
    have e7 := B0.2 7 _ rfl
    have e0 := B0.2 0 _ rfl
    go_wp2_with fail
    go_ret2
    exact pairI_mk HF.out hb
  cases hq : inB q 0 1000000000
  · have HF : Hid (grossOf x q = (0, false)) := grossOf_no (by rw [hi, hq]; rfl)
    go_enter Tryz.func60, Tryz.ntmps60
    have e7 := B0.2 7 _ rfl
    go_wp2_with fail
    generalize (w.alloc (.cells #[.string x.1, .string x.2.1, .int .i64 x.2.2.1, .int .i64 x.2.2.2.1, .int .i64 x.2.2.2.2.1, .int .i64 x.2.2.2.2.2.1, .int .i64 x.2.2.2.2.2.2.1, .int .i64 x.2.2.2.2.2.2.2] 81)) = V at *
    refine (implIsItem_at x _ hok).mono ?_
    rintro e V1 ⟨rfl, hs⟩
    rw [hi]
    replace hb := below_on hb hs
    replace B0 := B0.keep hs
    clear hs e7
    have e7 := B0.2 7 _ rfl
    have e0 := B0.2 0 _ rfl
    go_wp2_with fail
    refine (in_any _ _ _ _).mono ?_
    rintro e V2 ⟨rfl, rfl⟩
    rw [hq]
    go_wp2_with fail
    go_ret2
    exact pairI_mk HF.out hb
  have HF := Lib.hid (grossOf_yes hi hq)
  have hq2 := inB_iff.1 hq
  obtain ⟨_, _, _, _, _, hs2, _⟩ := isItem_lots x hi
  obtain ⟨q1, q2⟩ := hq2
  obtain ⟨s1, s2⟩ := hs2
  obtain ⟨s, hsc⟩ : ∃ s, x.2.2.2.2.2.2.2 = s := ⟨_, rfl⟩
  have HSC := Lib.hid hsc
  rw [hsc] at s1 s2
  clear hsc
  obtain ⟨g1, g2⟩ := grossQ_bd q1 q2 s1 s2
  have HG : Hid (grossOf x q = (-((-(q * 100)) / (100 - s)), true)) := by show _ = _; rw [HF.out, HSC.out]; rfl
  go_enter Tryz.func60, Tryz.ntmps60
  have e7 := B0.2 7 _ rfl
  go_wp2_with fail
  generalize (w.alloc (.cells #[.string x.1, .string x.2.1, .int .i64 x.2.2.1, .int .i64 x.2.2.2.1, .int .i64 x.2.2.2.2.1, .int .i64 x.2.2.2.2.2.1, .int .i64 x.2.2.2.2.2.2.1, .int .i64 x.2.2.2.2.2.2.2] 81)) = V at *
  refine (implIsItem_at x _ hok).mono ?_
  rintro e V1 ⟨rfl, hs⟩
  rw [hi]
  replace hb := below_on hb hs
  replace B0 := B0.keep hs
  clear hs e7
  have e7 := B0.2 7 _ rfl
  have e0 := B0.2 0 _ rfl
  go_wp2_with fail
  refine (in_any _ _ _ _).mono ?_
  rintro e V2 ⟨rfl, rfl⟩
  rw [hq]
  clear e7 e0
  have e7 := B0.2 7 _ rfl
  rw [HSC.out] at e7
  go_wp2_with fail
  refine (ceilOf_all _ _ _ (by omega) (by omega) (by omega) (by omega) (by omega) (by omega)).mono ?_
  rintro e V3 ⟨rfl, rfl⟩
  go_wp2_with fail
  go_ret2
  exact pairI_mk HG.out hb
set_option maxRecDepth 100000 in
set_option maxHeartbeats 1000000 in
theorem implNetOf_any (x : It) (q : Int) (w : World) (hok : okIt x) : Calls Tryz.prog 88 #[.agg #[.string x.1, .string x.2.1, .int .i64 x.2.2.1, .int .i64 x.2.2.2.1, .int .i64 x.2.2.2.2.1, .int .i64 x.2.2.2.2.2.1, .int .i64 x.2.2.2.2.2.2.1, .int .i64 x.2.2.2.2.2.2.2], .int .i64 q] w (PairI w (netOf x q)) := by
  have hb := below_alloc w (.cells #[.string x.1, .string x.2.1, .int .i64 x.2.2.1, .int .i64 x.2.2.2.1, .int .i64 x.2.2.2.2.1, .int .i64 x.2.2.2.2.2.1, .int .i64 x.2.2.2.2.2.2.1, .int .i64 x.2.2.2.2.2.2.2] 81)
  have B0 : BoxOf (w.alloc (.cells #[.string x.1, .string x.2.1, .int .i64 x.2.2.1, .int .i64 x.2.2.2.1, .int .i64 x.2.2.2.2.1, .int .i64 x.2.2.2.2.2.1, .int .i64 x.2.2.2.2.2.2.1, .int .i64 x.2.2.2.2.2.2.2] 81)) w.heap.size [.string x.1, .string x.2.1, .int .i64 x.2.2.1, .int .i64 x.2.2.2.1, .int .i64 x.2.2.2.2.1, .int .i64 x.2.2.2.2.2.1, .int .i64 x.2.2.2.2.2.2.1, .int .i64 x.2.2.2.2.2.2.2] := boxOf_alloc w #[.string x.1, .string x.2.1, .int .i64 x.2.2.1, .int .i64 x.2.2.2.1, .int .i64 x.2.2.2.2.1, .int .i64 x.2.2.2.2.2.1, .int .i64 x.2.2.2.2.2.2.1, .int .i64 x.2.2.2.2.2.2.2] 81
  cases hi : isItem x
  · have HF : Hid (netOf x q = (0, false)) := netOf_no (by rw [hi]; rfl)
    go_enter Tryz.func88, Tryz.ntmps88
    have e7 := B0.2 7 _ rfl
    go_wp2_with fail
    generalize (w.alloc (.cells #[.string x.1, .string x.2.1, .int .i64 x.2.2.1, .int .i64 x.2.2.2.1, .int .i64 x.2.2.2.2.1, .int .i64 x.2.2.2.2.2.1, .int .i64 x.2.2.2.2.2.2.1, .int .i64 x.2.2.2.2.2.2.2] 81)) = V at *
    refine (implIsItem_at x _ hok).mono ?_
    rintro e V1 ⟨rfl, hs⟩
    rw [hi]
    replace hb := below_on hb hs
    replace B0 := B0.keep hs
    clear hs e7
    have e7 := B0.2 7 _ rfl
    have e0 := B0.2 0 _ rfl
    go_wp2_with fail
    go_ret2
    exact pairI_mk HF.out hb
  cases hq : inB q 0 2000000000
  · have HF : Hid (netOf x q = (0, false)) := netOf_no (by rw [hi, hq]; rfl)
    go_enter Tryz.func88, Tryz.ntmps88
    have e7 := B0.2 7 _ rfl
    go_wp2_with fail
    generalize (w.alloc (.cells #[.string x.1, .string x.2.1, .int .i64 x.2.2.1, .int .i64 x.2.2.2.1, .int .i64 x.2.2.2.2.1, .int .i64 x.2.2.2.2.2.1, .int .i64 x.2.2.2.2.2.2.1, .int .i64 x.2.2.2.2.2.2.2] 81)) = V at *
    refine (implIsItem_at x _ hok).mono ?_
    rintro e V1 ⟨rfl, hs⟩
    rw [hi]
    replace hb := below_on hb hs
    replace B0 := B0.keep hs
    clear hs e7
    have e7 := B0.2 7 _ rfl
    have e0 := B0.2 0 _ rfl
    go_wp2_with fail
    refine (in_any _ _ _ _).mono ?_
    rintro e V2 ⟨rfl, rfl⟩
    rw [hq]
    go_wp2_with fail
    go_ret2
    exact pairI_mk HF.out hb
  have HF := Lib.hid (netOf_yes hi hq)
  have hq2 := inB_iff.1 hq
  obtain ⟨_, _, _, _, _, hs2, _⟩ := isItem_lots x hi
  obtain ⟨q1, q2⟩ := hq2
  obtain ⟨s1, s2⟩ := hs2
  obtain ⟨s, hsc⟩ : ∃ s, x.2.2.2.2.2.2.2 = s := ⟨_, rfl⟩
  have HSC := Lib.hid hsc
  rw [hsc] at s1 s2
  clear hsc
  have m1 : 0 ≤ q * (100 - s) := Int.mul_nonneg q1 (by omega)
  have m2 : q * (100 - s) ≤ 2000000000 * 100 := Int.mul_le_mul q2 (by omega) (by omega) (by omega)
  have w1 : IntKind.i64.wrap (q * (100 - s)) = q * (100 - s) := IntWalk.i64_in _ (by omega)
  have t1 : (q * (100 - s)).tdiv 100 = q * (100 - s) / 100 := Int.tdiv_eq_ediv_of_nonneg m1
  have HG : Hid (netOf x q = (q * (100 - s) / 100, true)) := by show _ = _; rw [HF.out, HSC.out]
  go_enter Tryz.func88, Tryz.ntmps88
  have e7 := B0.2 7 _ rfl
  go_wp2_with fail
  generalize (w.alloc (.cells #[.string x.1, .string x.2.1, .int .i64 x.2.2.1, .int .i64 x.2.2.2.1, .int .i64 x.2.2.2.2.1, .int .i64 x.2.2.2.2.2.1, .int .i64 x.2.2.2.2.2.2.1, .int .i64 x.2.2.2.2.2.2.2] 81)) = V at *
  refine (implIsItem_at x _ hok).mono ?_
  rintro e V1 ⟨rfl, hs⟩
  rw [hi]
  replace hb := below_on hb hs
  replace B0 := B0.keep hs
  clear hs e7
  have e7 := B0.2 7 _ rfl
  have e0 := B0.2 0 _ rfl
  go_wp2_with fail
  refine (in_any _ _ _ _).mono ?_
  rintro e V2 ⟨rfl, rfl⟩
  rw [hq]
  clear e7 e0
  have e7 := B0.2 7 _ rfl
  rw [HSC.out] at e7
  go_wp2_with fail
  go_ret2
  exact pairI_mk HG.out hb
end Go.Proofs.YtlnkofnfgemfdaaGreat
/- The walks of FlowUpTo, SpareOn, LackOf, IsKept. -/
namespace Go.Proofs.YtlnkofnfgemfdaaGreat
open Go.RowKit
def pairV (p : Int × Bool) : Value := .tuple #[.int .i64 p.1, .bool p.2]
theorem ret_pair {p q : Int × Bool} (h : p = q) : Ending.returned (.tuple #[.int .i64 p.1, .bool p.2]) = .returned (pairV q) := by rw [h, pairV]

set_option maxRecDepth 100000 in
set_option maxHeartbeats 1000000 in
theorem specFlowUpTo_any (A : Option Addr) (n c : Nat) (l : List Fl) (d : Int) (w : World) (hl : FlowsIn w A n l) :
    Calls Tryz.prog 102 #[.slice A n c, .int .i64 d] w fun e w' => e = .returned (.int .i64 (flowUpTo l d)) ∧ Drew w w' := by
  have hn := hl.len
  have hl0 := hl
  obtain rfl := hl.1
  cases hf : areFlows l
  · by_cases h0 : 0 < l.length
    all_goals
      go_enter Tryz.func102, Tryz.ntmps102
      go_wp2
      refine wp_loop_rounds 1 ?_
      rw [rounds_succ]
      go_wp2_with (go_at_call 39; refine (specAreFlows_any _ _ _ l _ hl).mono ?_; rintro e w1 ⟨rfl, hd⟩)
      go_ret
      first
        | exact ⟨ret_int (flowUpTo_no hf d).symm, hd⟩
        | exact ⟨ret_int (flowUpTo_no hf d).symm, Drew.refl _⟩
  have HB := Lib.hid (areFlows_bd hf d)
  go_enter Tryz.func102, Tryz.ntmps102
  go_wp2
  go_loopw [5, 6] (fun s i wr => ∃ k : Nat, k ≤ l.length ∧ i = .int .i64 k ∧ s = .int .i64 (upTo (l.take k) d) ∧ Drew w wr) (fun _ i _ => l.length - (intOf i).toNat)
  case atStart => exact ⟨0, by omega, rfl, rfl, Drew.refl _⟩
  case round =>
    obtain ⟨k, hk, rfl, rfl, HD⟩ := hrel
    by_cases hlt : k < l.length
    · obtain ⟨b, o, rfl, _, hc1, hc2⟩ := flow_at (hl.keep (HD.below _)) hlt
      have HT := Lib.hid (upTo_take l d k hlt)
      obtain ⟨b1, b2⟩ := HB.out k
      obtain ⟨b3, b4⟩ := (areFlows_mem hf l[k] (List.getElem_mem hlt)).2
      by_cases hday : l[k].1 ≤ d
      all_goals
        go_wp2_with (go_at_call 39; refine (specAreFlows_any _ _ _ l _ (hl.keep (HD.below _))).mono ?_; rintro e w1 ⟨rfl, ⟨q, rfl⟩⟩)
        go_roundw
        case rel =>
          refine ⟨k + 1, by omega, by go_num, ?_, HD.more _⟩
          rw [HT.out]
          (first | rw [if_pos (by omega)] | rw [if_neg (by omega)])
          all_goals (first | rfl | go_num)
        case measure => simp [intOf]; omega
    · obtain rfl : k = l.length := by omega
      go_wp2
      go_ret
      exact ⟨ret_int (by rw [flowUpTo_yes hf, List.take_length]), HD⟩
set_option maxRecDepth 100000 in
set_option maxHeartbeats 1000000 in
theorem implFlowUpTo_any (A : Option Addr) (n c : Nat) (l : List Fl) (d : Int) (w : World) (hl : FlowsIn w A n l) :
    Calls Tryz.prog 91 #[.slice A n c, .int .i64 d] w fun e w' => e = .returned (.int .i64 (flowUpTo l d)) ∧ Below w.heap.size w w' := by
  have hn := hl.len
  obtain rfl := hl.1
  cases hf : areFlows l
  · go_enter Tryz.func91, Tryz.ntmps91
    go_wp2_with (go_at_call 55; refine (implAreFlows_any _ _ _ l _ hl).mono ?_; rintro e w1 ⟨rfl, hb⟩)
    go_ret
    exact ⟨ret_int (flowUpTo_no hf d).symm, hb⟩
  have HB := Lib.hid (areFlows_bd hf d)
  go_enter Tryz.func91, Tryz.ntmps91
  go_wp2_with (go_at_call 55; refine (implAreFlows_any _ _ _ l _ hl).mono ?_; rintro e w1 ⟨rfl, hb⟩)
  go_loopw [5, 13] (fun s i wr => ∃ k : Nat, k ≤ l.length ∧ i = .int .i64 k ∧ s = .int .i64 (upTo (l.take k) d) ∧ Below w.heap.size w wr) (fun _ i _ => l.length - (intOf i).toNat)
  case atStart => exact ⟨0, by omega, rfl, rfl, hb⟩
  case round =>
    obtain ⟨k, hk, rfl, rfl, HD⟩ := hrel
    by_cases hlt : k < l.length
    · obtain ⟨b, o, rfl, _, hc1, hc2⟩ := flow_at (hl.keep HD) hlt
      have hsz := HD.size
      have HT := Lib.hid (upTo_take l d k hlt)
      obtain ⟨b1, b2⟩ := HB.out k
      obtain ⟨b3, b4⟩ := (areFlows_mem hf l[k] (List.getElem_mem hlt)).2
      by_cases hday : l[k].1 ≤ d
      all_goals
        go_wp2
        go_roundw
        case rel =>
          refine ⟨k + 1, by omega, by go_num, ?_, HD.alloc (by omega) _⟩
          rw [HT.out]
          (first | rw [if_pos (by omega)] | rw [if_neg (by omega)])
          all_goals (first | rfl | go_num)
        case measure => simp [intOf]; omega
    · obtain rfl : k = l.length := by omega
      go_wp2
      go_ret
      exact ⟨ret_int (by rw [flowUpTo_yes hf, List.take_length]), HD⟩
end Go.Proofs.YtlnkofnfgemfdaaGreat
