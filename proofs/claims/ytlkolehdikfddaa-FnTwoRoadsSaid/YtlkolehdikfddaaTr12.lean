/- Part 12 of the texts of this claim: The walks of AddWorkdays, backwards; The walks of GrossOf and NetOf; The walks of FlowUpTo, SpareOn, LackOf, IsKept; The walks of Projected and IsCovered; The walks of NetNeeds; The walks of the rule of lots; Lots for needs: what the reference's loop and the program's come to. -/
import Derived.Test.YtlkolehdikfddaaTr11
import Derived.Test.YtlkolehdikfddaaTr7
import Derived.Test.YtlkolehdikfddaaTr9
import Derived.Test.YtlkolehdikfddaaTr2
import Derived.Test.YtlkolehdikfddaaTr3
import Derived.Deep.RegionHeld3
import Derived.Test.YtlkolehdikfddaaTr1
/- The walks of AddWorkdays, backwards. -/
namespace Go.Proofs.Ytlkolehdikfddaa
open Go.RowKit
/-- k workdays back from day d. -/
def backD (h : Nat → Int) : Nat → Nat → Option Nat
  | d, 0 => some d
  | 0, _ + 1 => none
  | d + 1, k + 1 => if 0 < h d then backD h d k else backD h d (k + 1)
theorem backD_zero (h : Nat → Int) (d : Nat) : backD h d 0 = some d := by cases d <;> rfl
theorem backD_none (h : Nat → Int) (k : Nat) : backD h 0 (k + 1) = none := rfl
theorem backD_work (h : Nat → Int) (d k : Nat) (hd : 0 < h d) : backD h (d + 1) (k + 1) = backD h d k := by simp only [backD]; rw [if_pos hd]
theorem backD_free (h : Nat → Int) (d k : Nat) (hd : ¬ 0 < h d) : backD h (d + 1) (k + 1) = backD h d (k + 1) := by simp only [backD]; rw [if_neg hd]
def pairO (o : Option Nat) : Int × Bool := match o with
  | some d => ((d : Int), true)
  | none => (0, false)
def addWd (wk : List Int) (ex : List (Int × Int)) (day n : Int) : Int × Bool :=
  if (isCal wk ex && inB day 0 999) = true then pairO (backD (fun d => hoursTo wk ex d ex.length) day.toNat (-n).toNat) else (0, false)
theorem addWd_no {wk : List Int} {ex : List (Int × Int)} {day n : Int} (h : (isCal wk ex && inB day 0 999) = false) : addWd wk ex day n = (0, false) := by unfold addWd; rw [if_neg (by rw [h]; decide)]
theorem addWd_yes {wk : List Int} {ex : List (Int × Int)} {dn kn : Nat} (h1 : isCal wk ex = true) (h2 : inB (dn : Int) 0 999 = true) : addWd wk ex (dn : Int) (-(kn : Int)) = pairO (backD (fun d => hoursTo wk ex d ex.length) dn kn) := by
  unfold addWd
  rw [if_pos (by rw [h1, h2]; rfl)]
  rw [Int.neg_neg, Int.toNat_natCast, Int.toNat_natCast]
def PairI (w : World) (q : Int × Bool) (e : Ending) (w' : World) : Prop := e = .returned (.tuple #[.int .i64 q.1, .bool q.2]) ∧ Below w.heap.size w w'
theorem pairI_mk {w w' : World} {q : Int × Bool} {a : Int} {b : Bool} (h : q = (a, b)) (hb : Below w.heap.size w w') : PairI w q (.returned (.tuple #[.int .i64 a, .bool b])) w' := by subst h; exact ⟨rfl, hb⟩
set_option maxRecDepth 100000 in
set_option maxHeartbeats 4000000 in
theorem specAddWorkdays_any (A B : Option Addr) (n m c d : Nat) (wk : List Int) (ex : List Ex) (day : Int) (kn : Nat) (w : World) (ha : IntsIn w A n wk) (hb : ExsIn w B m ex) (hkn : kn ≤ 1000000) :
    Calls Try.prog 82 #[.agg #[.slice A n c, .slice B m d], .int .i64 day, .int .i64 (-(kn : Int))] w (PairI w (addWd wk ex day (-(kn : Int)))) := by
  have hb0 := below_alloc w (.cells #[.slice A n c, .slice B m d] 29)
  have B0 : BoxOf (w.alloc (.cells #[.slice A n c, .slice B m d] 29)) w.heap.size [.slice A n c, .slice B m d] := boxOf_alloc w #[.slice A n c, .slice B m d] 29
  cases hc : isCal wk ex
  · have HF : Hid (addWd wk ex day (-(kn : Int)) = (0, false)) := addWd_no (by rw [hc]; rfl)
    obtain ⟨g0, g1, gl⟩ := B0.two
    go_enter Try.func82, Try.ntmps82
    go_wp2_with fail
    generalize w.alloc (.cells #[.slice A n c, .slice B m d] 29) = V at *
    refine (specIsCalendar_any _ _ _ _ _ _ wk ex _ (ha.keep hb0) (hb.keep hb0)).mono ?_
    rintro e V1 ⟨rfl, hs⟩
    rw [hc]
    go_wp2_with fail
    go_ret2
    exact pairI_mk HF.out (below_on hb0 hs)
  cases hd : inB day 0 999
  · have HF : Hid (addWd wk ex day (-(kn : Int)) = (0, false)) := addWd_no (by rw [hc, hd]; rfl)
    obtain ⟨g0, g1, gl⟩ := B0.two
    go_enter Try.func82, Try.ntmps82
    go_wp2_with fail
    generalize w.alloc (.cells #[.slice A n c, .slice B m d] 29) = V at *
    refine (specIsCalendar_any _ _ _ _ _ _ wk ex _ (ha.keep hb0) (hb.keep hb0)).mono ?_
    rintro e V1 ⟨rfl, hs⟩
    rw [hc]
    go_wp2_with fail
    refine (l1In_any _ _ _ _).mono ?_
    rintro e V2 ⟨rfl, rfl⟩
    rw [hd]
    go_wp2_with fail
    go_ret2
    exact pairI_mk HF.out (below_on hb0 hs)
  have hdd := inB_iff.1 hd
  obtain ⟨dn, rfl⟩ : ∃ dn : Nat, day = (dn : Int) := ⟨day.toNat, by omega⟩
  have HALL := Lib.hid (addWd_yes (kn := kn) hc hd)
  have HB := Lib.hid (fun (j : Nat) => hoursTo_bd hc j ex.length (Nat.le_refl _))
  obtain ⟨g0, g1, gl⟩ := B0.two
  go_enter Try.func82, Try.ntmps82
  go_wp2_with fail
  generalize w.alloc (.cells #[.slice A n c, .slice B m d] 29) = V at *
  refine (specIsCalendar_any _ _ _ _ _ _ wk ex _ (ha.keep hb0) (hb.keep hb0)).mono ?_
  rintro e V1 ⟨rfl, hs⟩
  rw [hc]
  replace hb0 := below_on hb0 hs
  replace B0 := B0.keep hs
  clear hs g0 g1 gl
  go_wp2_with fail
  refine (l1In_any _ _ _ _).mono ?_
  rintro e V2 ⟨rfl, rfl⟩
  rw [hd]
  have hk0 : ¬ (0 : Int) < -(kn : Int) := by omega
  have hk1 : decide ((0 : Int) < -(kn : Int)) = false := decide_eq_false hk0
  go_wp2_with fail
  refine wp_loop_rounds 1 ?_
  rw [rounds_succ]
  go_wp2_with fail
  clear hk0 hk1
  have hdl : dn ≤ 999 := by omega
  go_loopw [8, 9] (fun a b wr => ∃ d1 k1 : Nat, d1 ≤ dn ∧ k1 ≤ kn ∧ a = .int .i64 d1 ∧ b = .int .i64 (-(k1 : Int)) ∧ Hid (backD (fun d => hoursTo wk ex d ex.length) d1 k1 = backD (fun d => hoursTo wk ex d ex.length) dn kn) ∧ BoxOf wr w.heap.size [.slice A n c, .slice B m d] ∧ Below w.heap.size w wr) (fun a _ _ => (intOf a).toNat)
  case atStart => exact ⟨dn, kn, Nat.le_refl _, Nat.le_refl _, rfl, rfl, rfl, B0, hb0⟩
  case round =>
    clear B0 hb0
    obtain ⟨d1, k1, hd1, hk1, rfl, rfl, HI, B0, hb0⟩ := hrel
    by_cases hkz : k1 = 0
    · subst hkz
      have HF : Hid (addWd wk ex (dn : Int) (-(kn : Int)) = ((d1 : Int), true)) := by
        show _ = _
        rw [HALL.out, ← HI.out, backD_zero]; rfl
      have q1 : decide ((-((0 : Nat) : Int)) < 0) = false := by decide
      have q2 : ¬ (999 : Int) < (d1 : Int) := by omega
      go_wp2_with fail
      go_ret2
      exact pairI_mk HF.out hb0
    have e1 : -(k1 : Int) < 0 := by omega
    by_cases hdz : d1 = 0
    · subst hdz
      have HF : Hid (addWd wk ex (dn : Int) (-(kn : Int)) = (0, false)) := by
        show _ = _
        obtain ⟨k2, rfl⟩ : ∃ k2, k1 = k2 + 1 := ⟨k1 - 1, by omega⟩
        rw [HALL.out, ← HI.out, backD_none]; rfl
      have q1 : (-(k1 : Int) != 0) = true := by rw [bne_iff_ne]; omega
      go_wp2_with fail
      go_ret2
      exact pairI_mk HF.out hb0
    obtain ⟨d2, rfl⟩ : ∃ d2, d1 = d2 + 1 := ⟨d1 - 1, by omega⟩
    obtain ⟨k2, rfl⟩ : ∃ k2, k1 = k2 + 1 := ⟨k1 - 1, by omega⟩
    have q2 : (0 : Int) < ((d2 + 1 : Nat) : Int) := by omega
    have q3 : (((d2 + 1 : Nat) : Int)) - 1 = (d2 : Int) := by omega
    have q4 : IntKind.i64.wrap (((d2 + 1 : Nat) : Int) - 1) = (d2 : Int) := by rw [q3]; exact IntWalk.i64_in _ (by omega)
    obtain ⟨g0, g1, gl⟩ := B0.two
    obtain ⟨h1, h2⟩ := HB.out d2
    obtain ⟨mv, hmv, hmw⟩ : ∃ mv : Int, (if (1 : Int) < hoursTo wk ex d2 ex.length then 1 else hoursTo wk ex d2 ex.length) = mv ∧ mv = (if 0 < hoursTo wk ex d2 ex.length then 1 else 0) := ⟨_, rfl, by split <;> split <;> omega⟩
    have HMW := Lib.hid hmw
    clear hmw q3
    go_wp2_with fail
    refine (specL4Hours_any _ _ _ _ _ _ wk ex d2 _ (ha.keep hb0) (hb.keep hb0) hc (by omega)).mono ?_
    rintro e V3 ⟨rfl, hs⟩
    have B3 := B0.keep hs
    have hb3 := below_on hb0 hs
    clear hs g0 g1 gl
    by_cases hw : 0 < hoursTo wk ex d2 ex.length
    · have HX : Hid (backD (fun d => hoursTo wk ex d ex.length) d2 k2 = backD (fun d => hoursTo wk ex d ex.length) dn kn) := by
        show _ = _
        rw [← HI.out, backD_work (fun d => hoursTo wk ex d ex.length) _ _ hw]
      have hm1 : mv = 1 := by rw [HMW.out, if_pos hw]
      subst hm1
      have q5 : IntKind.i64.wrap (-((k2 + 1 : Nat) : Int) + 1) = -(k2 : Int) := by
        rw [show -((k2 + 1 : Nat) : Int) + 1 = -(k2 : Int) by omega]; exact IntWalk.i64_in _ (by omega)
      clear hw
      go_wp2_with fail
      go_roundw
      case rel => exact ⟨d2, k2, by omega, by omega, rfl, by first | rfl | go_num, HX.out, B3, hb3⟩
      case measure => simp [intOf]
    · have HX : Hid (backD (fun d => hoursTo wk ex d ex.length) d2 (k2 + 1) = backD (fun d => hoursTo wk ex d ex.length) dn kn) := by
        show _ = _
        rw [← HI.out, backD_free (fun d => hoursTo wk ex d ex.length) _ _ hw]
      have hm1 : mv = 0 := by rw [HMW.out, if_neg hw]
      subst hm1
      have q5 : IntKind.i64.wrap (-((k2 + 1 : Nat) : Int) + 0) = -((k2 + 1 : Nat) : Int) := by
        rw [Int.add_zero]; exact IntWalk.i64_in _ (by omega)
      clear hw
      go_wp2_with fail
      go_roundw
      case rel => exact ⟨d2, k2 + 1, by omega, by omega, rfl, by first | rfl | go_num, HX.out, B3, hb3⟩
      case measure => simp [intOf]
end Go.Proofs.Ytlkolehdikfddaa
/- The walks of GrossOf and NetOf. -/
namespace Go.Proofs.Ytlkolehdikfddaa
open Go.RowKit
theorem flo_a (n d : Int) (hd : 1 ≤ d) (h : n.tmod d < 0) : n.tdiv d - 1 = n / d := by
  have h1 := @Int.tdiv_eq_ediv n d
  have h2 := @Int.tmod_eq_emod n d
  have h3 : ¬ (0 ≤ n ∨ d ∣ n) := by
    intro hc
    rw [if_pos hc] at h2
    have := Int.emod_nonneg n (show d ≠ 0 by omega)
    omega
  rw [if_neg h3, Int.sign_eq_one_of_pos (by omega)] at h1
  omega
theorem flo_b (n d : Int) (hd : 1 ≤ d) (h : 0 ≤ n.tmod d) : n.tdiv d = n / d := by
  have h1 := @Int.tdiv_eq_ediv n d
  have h2 := @Int.tmod_eq_emod n d
  have h3 : (0 ≤ n ∨ d ∣ n) := by
    by_cases hc : (0 ≤ n ∨ d ∣ n)
    · exact hc
    · rw [if_neg hc] at h2
      have := Int.emod_lt_of_pos n (show 0 < d by omega)
      omega
  rw [if_pos h3] at h1
  omega
theorem tdiv_bd (n d B : Int) (h1 : -B ≤ n) (h2 : n ≤ B) : -B ≤ n.tdiv d ∧ n.tdiv d ≤ B := by
  have h3 : (n.tdiv d).natAbs ≤ n.natAbs := by rw [Int.natAbs_tdiv]; exact Nat.div_le_self _ _
  omega
/-- How many must be begun so that q are good. -/
def grossQ (q s : Int) : Int := -((-(q * 100)) / (100 - s))
def grossOf (x : It) (q : Int) : Int × Bool := if (isItem x && inB q 0 1000000000) = true then (grossQ q x.2.2.2.2.2.2.2, true) else (0, false)
def netOf (x : It) (g : Int) : Int × Bool := if (isItem x && inB g 0 2000000000) = true then (g * (100 - x.2.2.2.2.2.2.2) / 100, true) else (0, false)
theorem grossOf_no {x : It} {q : Int} (h : (isItem x && inB q 0 1000000000) = false) : grossOf x q = (0, false) := by unfold grossOf; rw [if_neg (by rw [h]; decide)]
theorem grossOf_yes {x : It} {q : Int} (h1 : isItem x = true) (h2 : inB q 0 1000000000 = true) : grossOf x q = (grossQ q x.2.2.2.2.2.2.2, true) := by unfold grossOf; rw [if_pos (by rw [h1, h2]; rfl)]
theorem grossQ_bd {q s : Int} (h1 : 0 ≤ q) (h2 : q ≤ 1000000000) (h3 : 0 ≤ s) (h4 : s ≤ 50) : -2000000001 ≤ (-(q * 100)) / (100 - s) ∧ (-(q * 100)) / (100 - s) ≤ 0 := by
  have hd : 0 < 100 - s := by omega
  constructor
  · rw [Int.le_ediv_iff_mul_le hd]
    have : -2000000001 * (100 - s) ≤ -2000000001 * 50 := Int.mul_le_mul_of_nonpos_left (by omega) (by omega)
    omega
  · exact Int.ediv_le_of_le_mul hd (by omega)
set_option maxRecDepth 100000 in
theorem l2Floor_all (n d : Int) (w : World) (h1 : -1000000000000 ≤ n) (h2 : n ≤ 1000000000000) (h3 : 1 ≤ d) (h4 : d ≤ 1000) : Calls Try.prog 93 #[.int .i64 n, .int .i64 d] w fun e w' => e = .returned (.int .i64 (n / d)) ∧ w = w' := by
  obtain ⟨b2, b3⟩ := tdiv_bd n d 1000000000000 h1 h2
  by_cases hm : n.tmod d < 0
  · have HF := Lib.hid (flo_a n d h3 hm)
    go_enter Try.func93, Try.ntmps93
    go_wp2
    go_ret
    exact ⟨ret_int HF.out, rfl⟩
  · have HF := Lib.hid (flo_b n d h3 (by omega))
    go_enter Try.func93, Try.ntmps93
    go_wp2
    go_ret
    exact ⟨ret_int HF.out, rfl⟩
set_option maxRecDepth 100000 in
set_option maxHeartbeats 1000000 in
theorem specGrossOf_any (x : It) (q : Int) (w : World) (hok : okIt x) : Calls Try.prog 81 #[.agg #[.string x.1, .string x.2.1, .int .i64 x.2.2.1, .int .i64 x.2.2.2.1, .int .i64 x.2.2.2.2.1, .int .i64 x.2.2.2.2.2.1, .int .i64 x.2.2.2.2.2.2.1, .int .i64 x.2.2.2.2.2.2.2], .int .i64 q] w (PairI w (grossOf x q)) := by
  have hb := below_alloc w (.cells #[.string x.1, .string x.2.1, .int .i64 x.2.2.1, .int .i64 x.2.2.2.1, .int .i64 x.2.2.2.2.1, .int .i64 x.2.2.2.2.2.1, .int .i64 x.2.2.2.2.2.2.1, .int .i64 x.2.2.2.2.2.2.2] 47)
  have B0 : BoxOf (w.alloc (.cells #[.string x.1, .string x.2.1, .int .i64 x.2.2.1, .int .i64 x.2.2.2.1, .int .i64 x.2.2.2.2.1, .int .i64 x.2.2.2.2.2.1, .int .i64 x.2.2.2.2.2.2.1, .int .i64 x.2.2.2.2.2.2.2] 47)) w.heap.size [.string x.1, .string x.2.1, .int .i64 x.2.2.1, .int .i64 x.2.2.2.1, .int .i64 x.2.2.2.2.1, .int .i64 x.2.2.2.2.2.1, .int .i64 x.2.2.2.2.2.2.1, .int .i64 x.2.2.2.2.2.2.2] := boxOf_alloc w #[.string x.1, .string x.2.1, .int .i64 x.2.2.1, .int .i64 x.2.2.2.1, .int .i64 x.2.2.2.2.1, .int .i64 x.2.2.2.2.2.1, .int .i64 x.2.2.2.2.2.2.1, .int .i64 x.2.2.2.2.2.2.2] 47
  cases hi : isItem x
  · have HF : Hid (grossOf x q = (0, false)) := grossOf_no (by rw [hi]; rfl)
    go_enter Try.func81, Try.ntmps81
    have e7 := B0.2 7 _ rfl
    go_wp2_with fail
    generalize (w.alloc (.cells #[.string x.1, .string x.2.1, .int .i64 x.2.2.1, .int .i64 x.2.2.2.1, .int .i64 x.2.2.2.2.1, .int .i64 x.2.2.2.2.2.1, .int .i64 x.2.2.2.2.2.2.1, .int .i64 x.2.2.2.2.2.2.2] 47)) = V at *
    refine (specIsItem_at x _ hok).mono ?_
    rintro e V1 ⟨rfl, hs⟩
    rw [hi]
    replace hb := below_on hb hs
    replace B0 := B0.keep hs
    clear hs e7
    have e7 := B0.2 7 _ rfl
    have e0 := B0.2 0 _ rfl
    go_wp2_with fail
    go_ret2
    exact pairI_mk HF.out hb
  cases hq : inB q 0 1000000000
  · have HF : Hid (grossOf x q = (0, false)) := grossOf_no (by rw [hi, hq]; rfl)
    go_enter Try.func81, Try.ntmps81
    have e7 := B0.2 7 _ rfl
    go_wp2_with fail
    generalize (w.alloc (.cells #[.string x.1, .string x.2.1, .int .i64 x.2.2.1, .int .i64 x.2.2.2.1, .int .i64 x.2.2.2.2.1, .int .i64 x.2.2.2.2.2.1, .int .i64 x.2.2.2.2.2.2.1, .int .i64 x.2.2.2.2.2.2.2] 47)) = V at *
    refine (specIsItem_at x _ hok).mono ?_
    rintro e V1 ⟨rfl, hs⟩
    rw [hi]
    replace hb := below_on hb hs
    replace B0 := B0.keep hs
    clear hs e7
    have e7 := B0.2 7 _ rfl
    have e0 := B0.2 0 _ rfl
    go_wp2_with fail
    refine (l1In_any _ _ _ _).mono ?_
    rintro e V2 ⟨rfl, rfl⟩
    rw [hq]
    go_wp2_with fail
    go_ret2
    exact pairI_mk HF.out hb
  have HF := Lib.hid (grossOf_yes hi hq)
  have hq2 := inB_iff.1 hq
  obtain ⟨_, _, _, _, _, hs2, _⟩ := isItem_lots x hi
  obtain ⟨q1, q2⟩ := hq2
  obtain ⟨s1, s2⟩ := hs2
  obtain ⟨s, hsc⟩ : ∃ s, x.2.2.2.2.2.2.2 = s := ⟨_, rfl⟩
  have HSC := Lib.hid hsc
  rw [hsc] at s1 s2
  clear hsc
  obtain ⟨g1, g2⟩ := grossQ_bd q1 q2 s1 s2
  have HG : Hid (grossOf x q = (-((-(q * 100)) / (100 - s)), true)) := by show _ = _; rw [HF.out, HSC.out]; rfl
  go_enter Try.func81, Try.ntmps81
  have e7 := B0.2 7 _ rfl
  go_wp2_with fail
  generalize (w.alloc (.cells #[.string x.1, .string x.2.1, .int .i64 x.2.2.1, .int .i64 x.2.2.2.1, .int .i64 x.2.2.2.2.1, .int .i64 x.2.2.2.2.2.1, .int .i64 x.2.2.2.2.2.2.1, .int .i64 x.2.2.2.2.2.2.2] 47)) = V at *
  refine (specIsItem_at x _ hok).mono ?_
  rintro e V1 ⟨rfl, hs⟩
  rw [hi]
  replace hb := below_on hb hs
  replace B0 := B0.keep hs
  clear hs e7
  have e7 := B0.2 7 _ rfl
  have e0 := B0.2 0 _ rfl
  go_wp2_with fail
  refine (l1In_any _ _ _ _).mono ?_
  rintro e V2 ⟨rfl, rfl⟩
  rw [hq]
  clear e7 e0
  have e7 := B0.2 7 _ rfl
  rw [HSC.out] at e7
  have w1 : IntKind.i64.wrap (-q * 100) = -(q * 100) := by rw [Int.neg_mul]; exact IntWalk.i64_in _ (by omega)
  go_wp2_with fail
  refine (l2Floor_all _ _ _ (by omega) (by omega) (by omega) (by omega)).mono ?_
  rintro e V3 ⟨rfl, rfl⟩
  go_wp2_with fail
  go_ret2
  exact pairI_mk HG.out hb
end Go.Proofs.Ytlkolehdikfddaa
/- The walks of FlowUpTo, SpareOn, LackOf, IsKept. -/
namespace Go.Proofs.Ytlkolehdikfddaa
open Go.RowKit
def pairV (p : Int × Bool) : Value := .tuple #[.int .i64 p.1, .bool p.2]
set_option maxRecDepth 100000 in
set_option maxHeartbeats 1000000 in
theorem specFlowUpTo_any (A : Option Addr) (n c : Nat) (l : List Fl) (d : Int) (w : World) (hl : FlowsIn w A n l) :
    Calls Try.prog 90 #[.slice A n c, .int .i64 d] w fun e w' => e = .returned (.int .i64 (flowUpTo l d)) ∧ Drew w w' := by
  have hn := hl.len
  have hl0 := hl
  obtain rfl := hl.1
  cases hf : areFlows l
  · by_cases h0 : 0 < l.length
    all_goals
      go_enter Try.func90, Try.ntmps90
      go_wp2
      refine wp_loop_rounds 1 ?_
      rw [rounds_succ]
      go_wp2_with (go_at_call 76; refine (specAreFlows_any _ _ _ l _ hl).mono ?_; rintro e w1 ⟨rfl, hd⟩)
      go_ret
      first
        | exact ⟨ret_int (flowUpTo_no hf d).symm, hd⟩
        | exact ⟨ret_int (flowUpTo_no hf d).symm, Drew.refl _⟩
  have HB := Lib.hid (areFlows_bd hf d)
  go_enter Try.func90, Try.ntmps90
  go_wp2
  go_loopw [5, 6] (fun s i wr => ∃ k : Nat, k ≤ l.length ∧ i = .int .i64 k ∧ s = .int .i64 (upTo (l.take k) d) ∧ Drew w wr) (fun _ i _ => l.length - (intOf i).toNat)
  case atStart => exact ⟨0, by omega, rfl, rfl, Drew.refl _⟩
  case round =>
    obtain ⟨k, hk, rfl, rfl, HD⟩ := hrel
    by_cases hlt : k < l.length
    · obtain ⟨b, o, rfl, _, hc1, hc2⟩ := flow_at (hl.keep (HD.below _)) hlt
      have HT := Lib.hid (upTo_take l d k hlt)
      obtain ⟨b1, b2⟩ := HB.out k
      obtain ⟨b3, b4⟩ := (areFlows_mem hf l[k] (List.getElem_mem hlt)).2
      by_cases hday : l[k].1 ≤ d
      all_goals
        go_wp2_with (go_at_call 76; refine (specAreFlows_any _ _ _ l _ (hl.keep (HD.below _))).mono ?_; rintro e w1 ⟨rfl, ⟨q, rfl⟩⟩)
        go_roundw
        case rel =>
          refine ⟨k + 1, by omega, by go_num, ?_, HD.more _⟩
          rw [HT.out]
          (first | rw [if_pos (by omega)] | rw [if_neg (by omega)])
          all_goals (first | rfl | go_num)
        case measure => simp [intOf]; omega
    · obtain rfl : k = l.length := by omega
      go_wp2
      go_ret
      exact ⟨ret_int (by rw [flowUpTo_yes hf, List.take_length]), HD⟩
end Go.Proofs.Ytlkolehdikfddaa
/- The walks of Projected and IsCovered. -/
namespace Go.Proofs.Ytlkolehdikfddaa
open Go.RowKit
def projected (rcv dem : List Fl) (stock d : Int) : Int := if inB stock 0 1000000000 && (areFlows rcv && areFlows dem) then stock + flowUpTo rcv d - flowUpTo dem d else 0
theorem projected_yes {rcv dem : List Fl} {stock : Int} (h1 : inB stock 0 1000000000 = true) (h2 : areFlows rcv = true) (h3 : areFlows dem = true) (d : Int) : projected rcv dem stock d = stock + flowUpTo rcv d - flowUpTo dem d := by simp [projected, h1, h2, h3]
theorem projected_bd {rcv dem : List Fl} {stock d : Int} : -40000000000 ≤ projected rcv dem stock d ∧ projected rcv dem stock d ≤ 41000000000 := by
  unfold projected
  split
  · rename_i h
    simp only [Bool.and_eq_true, inB_iff] at h
    have h1 := flowUpTo_bd rcv d
    have h2 := flowUpTo_bd dem d
    omega
  · omega
def isCovered (rcv dem : List Fl) (stock safety : Int) : Bool :=
  (inB stock 0 1000000000 && (inB safety 0 1000000000 && (areFlows rcv && areFlows dem))) && (List.range 1000).all fun d => decide (safety ≤ projected rcv dem stock d)
end Go.Proofs.Ytlkolehdikfddaa
/- The walks of NetNeeds. -/
namespace Go.Proofs.Ytlkolehdikfddaa
open Go.RowKit
def netTo (rcv dem : List Fl) (stock safety : Int) : Nat → List Fl × Int
  | 0 => ([], 0)
  | d + 1 =>
    if 0 < safety - projected rcv dem stock d - (netTo rcv dem stock safety d).2 then
      ((netTo rcv dem stock safety d).1 ++ [((d : Int), safety - projected rcv dem stock d - (netTo rcv dem stock safety d).2)], (netTo rcv dem stock safety d).2 + (safety - projected rcv dem stock d - (netTo rcv dem stock safety d).2))
    else netTo rcv dem stock safety d
theorem netTo_succ (rcv dem : List Fl) (stock safety : Int) (d : Nat) : netTo rcv dem stock safety (d + 1) =
    if 0 < safety - projected rcv dem stock d - (netTo rcv dem stock safety d).2 then
      ((netTo rcv dem stock safety d).1 ++ [((d : Int), safety - projected rcv dem stock d - (netTo rcv dem stock safety d).2)], (netTo rcv dem stock safety d).2 + (safety - projected rcv dem stock d - (netTo rcv dem stock safety d).2))
    else netTo rcv dem stock safety d := rfl
theorem netTo_bd (rcv dem : List Fl) (stock safety : Int) (h : 0 ≤ safety ∧ safety ≤ 1000000000) (k : Nat) : (netTo rcv dem stock safety k).1.length ≤ k ∧ 0 ≤ (netTo rcv dem stock safety k).2 ∧ (netTo rcv dem stock safety k).2 ≤ 41000000000 := by
  induction k with
  | zero => simp [netTo]
  | succ k ih =>
    have h1 := projected_bd (rcv := rcv) (dem := dem) (stock := stock) (d := k)
    simp only [netTo]
    split
    · simp; omega
    · omega
def netNeeds (rcv dem : List Fl) (stock safety : Int) : List Fl × Bool :=
  if (inB stock 0 1000000000 && (inB safety 0 1000000000 && (areFlows rcv && areFlows dem))) && areFlows (netTo rcv dem stock safety 1000).1 then ((netTo rcv dem stock safety 1000).1, true) else ([], false)
theorem netNeeds_no {rcv dem : List Fl} {stock safety : Int} (h : ((inB stock 0 1000000000 && (inB safety 0 1000000000 && (areFlows rcv && areFlows dem))) && areFlows (netTo rcv dem stock safety 1000).1) = false) : netNeeds rcv dem stock safety = ([], false) := by
  unfold netNeeds; rw [h]; rfl
theorem netNeeds_yes {rcv dem : List Fl} {stock safety : Int} (h : ((inB stock 0 1000000000 && (inB safety 0 1000000000 && (areFlows rcv && areFlows dem))) && areFlows (netTo rcv dem stock safety 1000).1) = true) : netNeeds rcv dem stock safety = ((netTo rcv dem stock safety 1000).1, true) := by
  unfold netNeeds; rw [h]; rfl
theorem netNeeds_flows (rcv dem : List Fl) (stock safety : Int) : areFlows (netNeeds rcv dem stock safety).1 = true := by
  unfold netNeeds
  split
  · rename_i h
    simp only [Bool.and_eq_true] at h
    exact h.2
  · rfl
set_option maxRecDepth 100000 in
set_option maxHeartbeats 2000000 in
theorem specNetNeeds_any (A B : Option Addr) (n m c c2 : Nat) (rcv dem : List Fl) (stock safety : Int) (w : World) (ha : FlowsIn w A n rcv) (hm : FlowsIn w B m dem) :
    Calls Try.prog 77 #[.int .i64 stock, .int .i64 safety, .slice A n c, .slice B m c2] w (PairRows w (netNeeds rcv dem stock safety)) := by
  have hb : Below w.heap.size w w := Below.refl _ _
  go_enter Try.func77, Try.ntmps77
  go_wp2_with fail
  refine (l1In_any _ _ _ _).mono ?_
  rintro e v ⟨rfl, rfl⟩
  cases g1 : inB stock 0 1000000000
  · go_wp2_with fail
    go_ret2
    exact pairRows_mk (l := []) (netNeeds_no (by simp [g1])) (empty_row rfl hb.size) (hb.alloc hb.size _)
  go_wp2_with fail
  refine (l1In_any _ _ _ _).mono ?_
  rintro e v ⟨rfl, rfl⟩
  cases g2 : inB safety 0 1000000000
  · go_wp2_with fail
    go_ret2
    exact pairRows_mk (l := []) (netNeeds_no (by simp [g2])) (empty_row rfl hb.size) (hb.alloc hb.size _)
  go_wp2_with fail
  refine (specAreFlows_any _ _ _ rcv _ (ha.keep hb)).mono ?_
  rintro e u3 ⟨rfl, hs⟩
  replace hb := below_on hb (hs.below _)
  clear hs
  cases g3 : areFlows rcv
  · go_wp2_with fail
    go_ret2
    exact pairRows_mk (l := []) (netNeeds_no (by simp [g3])) (empty_row rfl hb.size) (hb.alloc hb.size _)
  go_wp2_with fail
  refine (specAreFlows_any _ _ _ dem _ (hm.keep hb)).mono ?_
  rintro e u4 ⟨rfl, hs⟩
  replace hb := below_on hb (hs.below _)
  clear hs
  cases g4 : areFlows dem
  · go_wp2_with fail
    go_ret2
    exact pairRows_mk (l := []) (netNeeds_no (by simp [g4])) (empty_row rfl hb.size) (hb.alloc hb.size _)
  obtain ⟨s1, s2⟩ := inB_iff.1 g1
  obtain ⟨s3, s4⟩ := inB_iff.1 g2
  have HB := Lib.hid (netTo_bd rcv dem stock safety ⟨s3, s4⟩)
  have hsz0 := hb.size
  go_wp2
  have hb0 := hb.alloc hsz0 (.cells #[] 107)
  have hv0 : RowVal flF 107 (u4.alloc (.cells #[] 107)) w.heap.size (.slice (some ⟨u4.heap.size, 0, none⟩) 0 0) [] := empty_row rfl hsz0
  clear hb
  go_loopw [10, 11, 12] (fun v s i wr => ∃ k : Nat, k ≤ 1000 ∧ i = .int .i64 k ∧ s = .int .i64 (netTo rcv dem stock safety k).2 ∧ RowVal flF 107 wr w.heap.size v (netTo rcv dem stock safety k).1 ∧ Below w.heap.size w wr) (fun _ _ i _ => 1000 - (intOf i).toNat)
  case atStart => exact ⟨0, by omega, rfl, rfl, hv0, hb0⟩
  case round =>
    clear hv0 hb0
    obtain ⟨k, hk, rfl, rfl, hrow, HR⟩ := hrel
    by_cases hlt : k ≤ 999
    · have HS := Lib.hid (netTo_succ rcv dem stock safety k)
      obtain ⟨n1, n2, n3⟩ := HB.out k
      generalize hst : netTo rcv dem stock safety k = st at *
      obtain ⟨out, sum⟩ := st
      dsimp only at hrow n1 n2 n3 HS ⊢
      have HST := Lib.hid hst
      clear hst
      have hout : out.length ≤ 1000 := by omega
      obtain ⟨p1, p2⟩ := projected_bd (rcv := rcv) (dem := dem) (stock := stock) (d := k)
      obtain ⟨f1, f2⟩ := flowUpTo_bd rcv k
      obtain ⟨f3, f4⟩ := flowUpTo_bd dem k
      have hpj := projected_yes g1 g3 g4 k
      have HP : Hid (safety - projected rcv dem stock k - sum = safety - sum - stock - flowUpTo rcv k + flowUpTo dem k) := by show safety - projected rcv dem stock k - sum = _; rw [hpj]; omega
      rw [HP.out] at HS
      clear p1 p2 hpj
      by_cases hp : 0 < (safety - sum - stock - flowUpTo rcv k + flowUpTo dem k)
      · go_wp2_with fail
        refine (specFlowUpTo_any _ _ _ rcv k _ (ha.keep HR)).mono ?_
        rintro e v1 ⟨rfl, hd⟩
        replace hrow := hrow.keep (hd.below _)
        replace HR := HR.trans (hd.below _)
        clear hd
        go_wp2_with fail
        refine (specFlowUpTo_any _ _ _ dem k _ (hm.keep HR)).mono ?_
        rintro e v2 ⟨rfl, hd⟩
        replace hrow := hrow.keep (hd.below _)
        replace HR := HR.trans (hd.below _)
        clear hd
        have hsz := HR.size
        go_wp2_with (at_builtin; refine wpList_append_one flowElem rfl _ _ rfl rfl (l := out) hrow (by omega) ((k : Int), (safety - sum - stock - flowUpTo rcv k + flowUpTo dem k)) #[.int .i64 k, .int .i64 (safety - sum - stock - flowUpTo rcv k + flowUpTo dem k)] rfl (by simp [Value.oneCell']) v2.heap.size _ rfl rfl hsz ?_; intro v' w2 hrow' hbl hgr)
        go_roundw
        case rel => exact ⟨k + 1, by omega, by go_num, by rw [HS.out, if_pos (by omega)], by rw [HS.out, if_pos (by omega)]; exact hrow', HR.trans (hbl _ (Nat.le_refl _) hsz)⟩
        case measure => simp [intOf]; omega
      · go_wp2_with fail
        refine (specFlowUpTo_any _ _ _ rcv k _ (ha.keep HR)).mono ?_
        rintro e v1 ⟨rfl, hd⟩
        replace hrow := hrow.keep (hd.below _)
        replace HR := HR.trans (hd.below _)
        clear hd
        go_wp2_with fail
        refine (specFlowUpTo_any _ _ _ dem k _ (hm.keep HR)).mono ?_
        rintro e v2 ⟨rfl, hd⟩
        replace hrow := hrow.keep (hd.below _)
        replace HR := HR.trans (hd.below _)
        clear hd
        go_wp2_with fail
        go_roundw
        case rel => exact ⟨k + 1, by omega, by go_num, by rw [HS.out, if_neg (by omega)], by rw [HS.out, if_neg (by omega)]; exact hrow, HR⟩
        case measure => simp [intOf]; omega
    · obtain rfl : k = 1000 := by omega
      obtain ⟨n1, n2, n3⟩ := HB.out 1000
      obtain ⟨X, C, rfl, hrow2⟩ := hrow.form
      go_wp2_with fail
      refine (specAreFlows_any _ _ _ (netTo rcv dem stock safety 1000).1 _ (hrow2.rows (by omega))).mono ?_
      rintro e v1 ⟨rfl, hs⟩
      replace hrow2 := hrow2.keep (hs.below _)
      replace HR := HR.trans (hs.below _)
      clear hs
      have hsz := HR.size
      cases hfl : areFlows (netTo rcv dem stock safety 1000).1
      · go_wp2_with fail
        go_ret2
        exact pairRows_mk (l := []) (netNeeds_no (by rw [hfl, Bool.and_false])) (empty_row rfl hsz) (HR.alloc hsz _)
      · go_wp2_with fail
        go_ret2
        exact pairRows_mk (netNeeds_yes (by rw [hfl, g1, g2, g3, g4]; rfl)) hrow2.val HR
end Go.Proofs.Ytlkolehdikfddaa
/- The walks of the rule of lots. -/
namespace Go.Proofs.Ytlkolehdikfddaa
open Go.RowKit
def lotRule (r s : Int) : Bool := ((r == 0) && (s == 0)) || (((r == 1) || (r == 2)) && inB s 1 1000)
theorem inB_12 (r : Int) : inB r 1 2 = ((r == 1) || (r == 2)) := by
  rw [Bool.eq_iff_iff, inB_iff]
  simp only [Bool.or_eq_true, beq_iff_eq]
  omega
set_option maxRecDepth 100000 in
set_option maxHeartbeats 2000000 in
theorem l15Rule_any (r s : Int) (w : World) : Calls Try.prog 91 #[.int .i64 r, .int .i64 s] w fun e w' => e = .returned (.bool (lotRule r s)) ∧ w = w' := by
  unfold lotRule
  rw [← inB_12]
  cases h1 : (r == 0) <;> cases h2 : (s == 0) <;> cases h3 : inB r 1 2 <;> cases h4 : inB s 1 1000
  all_goals
    go_enter Try.func91, Try.ntmps91
    go_wp2_with (go_at_call 42; refine (l1In_any _ _ _ _).mono ?_; rintro e w' ⟨rfl, rfl⟩)
    go_ret
    exact ⟨rfl, rfl⟩
end Go.Proofs.Ytlkolehdikfddaa
/- Lots for needs: what the reference's loop and the program's come to. -/
namespace Go.Proofs.Ytlkolehdikfddaa

/-- The size of a lot of whole pieces of 'size' that covers n. -/
def lotUp (n size : Int) : Int := (n + size - 1) / size * size
theorem lotUp_bd (n size : Int) (h1 : 1 ≤ size) (h2 : size ≤ 1000) (h3 : 1 ≤ n) (h4 : n ≤ 1000000000) : n ≤ lotUp n size ∧ lotUp n size - n < size ∧ lotUp n size ≤ 1000001000 ∧ 0 ≤ (n + size - 1) / size ∧ (n + size - 1) / size ≤ 1000001000 := by
  have e1 := Int.mul_ediv_add_emod (n + size - 1) size
  have e2 := Int.emod_nonneg (n + size - 1) (show size ≠ 0 by omega)
  have e3 := Int.emod_lt_of_pos (n + size - 1) (show 0 < size by omega)
  have e4 : lotUp n size = size * ((n + size - 1) / size) := Int.mul_comm _ _
  have e5 : 0 ≤ (n + size - 1) / size := Int.ediv_nonneg (by omega) (by omega)
  have e6 : (n + size - 1) / size ≤ n + size - 1 := Int.ediv_le_self _ (by omega)
  omega
def lastDay (l : List Fl) : Int := (l.getD (l.length - 1) (0, 0)).1
/-- The last flow with so much more. -/
def bump (l : List Fl) (q : Int) : List Fl := l.set (l.length - 1) (lastDay l, (l.getD (l.length - 1) (0, 0)).2 + q)
theorem bump_len (l : List Fl) (q : Int) : (bump l q).length = l.length := by simp [bump]
def lotStep (rule size : Int) (s : List Fl × Int) (f : Fl) : List Fl × Int :=
  if rule = 1 then
    if s.2 < f.2 then (s.1 ++ [(f.1, lotUp (f.2 - s.2) size)], lotUp (f.2 - s.2) size - (f.2 - s.2)) else (s.1, s.2 - f.2)
  else if rule = 2 ∧ 0 < s.1.length ∧ f.1 < lastDay s.1 + size then (bump s.1 f.2, s.2) else (s.1 ++ [f], s.2)
def lotTo (rule size : Int) (needs : List Fl) (k : Nat) : List Fl × Int := (needs.take k).foldl (lotStep rule size) ([], 0)
theorem lotTo_succ (rule size : Int) (needs : List Fl) (k : Nat) (h : k < needs.length) : lotTo rule size needs (k + 1) = lotStep rule size (lotTo rule size needs k) needs[k] := by
  unfold lotTo
  rw [List.take_succ_eq_append_getElem h, List.foldl_append]; rfl
/-- What holds of the lots at each place. -/
theorem lotTo_parts (rule size : Int) (needs : List Fl) (hf : areFlows needs = true) (hr : lotRule rule size = true) (k : Nat) (hk : k ≤ needs.length) :
    (lotTo rule size needs k).1.length ≤ k ∧ 0 ≤ (lotTo rule size needs k).2 ∧ (lotTo rule size needs k).2 ≤ 999 ∧ ∀ f ∈ (lotTo rule size needs k).1, 0 ≤ f.1 ∧ f.1 ≤ 999 ∧ 0 ≤ f.2 ∧ f.2 ≤ 1000001000 * k := by
  induction k with
  | zero => simp [lotTo]
  | succ k ih =>
    obtain ⟨h1, h2, h3, h4⟩ := ih (by omega)
    obtain ⟨⟨m1, m2⟩, m3, m4⟩ := areFlows_mem hf needs[k] (List.getElem_mem (by omega))
    rw [lotTo_succ rule size needs k (by omega)]
    have hmore : ∀ f ∈ (lotTo rule size needs k).1, 0 ≤ f.1 ∧ f.1 ≤ 999 ∧ 0 ≤ f.2 ∧ f.2 ≤ 1000001000 * ((k + 1 : Nat) : Int) := fun f hx => by have := h4 f hx; omega
    have hone : ∀ (l : List Fl) (x : Fl), (∀ f ∈ l, 0 ≤ f.1 ∧ f.1 ≤ 999 ∧ 0 ≤ f.2 ∧ f.2 ≤ 1000001000 * ((k + 1 : Nat) : Int)) → (0 ≤ x.1 ∧ x.1 ≤ 999 ∧ 0 ≤ x.2 ∧ x.2 ≤ 1000001000 * ((k + 1 : Nat) : Int)) →
        ∀ f ∈ l ++ [x], 0 ≤ f.1 ∧ f.1 ≤ 999 ∧ 0 ≤ f.2 ∧ f.2 ≤ 1000001000 * ((k + 1 : Nat) : Int) := fun l x ha hb f hx => by
      rcases List.mem_append.1 hx with h | h
      · exact ha f h
      · have : f = x := by simpa using h
        rw [this]; exact hb
    unfold lotStep
    split
    · rename_i hr1
      have hs : 1 ≤ size ∧ size ≤ 1000 := by
        subst hr1
        simp [lotRule, inB] at hr
        exact hr
      split
      · obtain ⟨b1, b2, b3, b4, b5⟩ := lotUp_bd (needs[k].2 - (lotTo rule size needs k).2) size hs.1 hs.2 (by omega) (by omega)
        refine ⟨by simp; omega, by simp only; omega, by simp only; omega, hone _ _ hmore ⟨m1, m2, by simp only; omega, by simp only; omega⟩⟩
      · exact ⟨by simp only; omega, by simp only; omega, by simp only; omega, hmore⟩
    · split
      · rename_i hc
        obtain ⟨_, c1, _⟩ := hc
        have hlast : (lotTo rule size needs k).1.length - 1 < (lotTo rule size needs k).1.length := by omega
        obtain ⟨l1, l2, l3, l4⟩ := h4 _ (List.getElem_mem hlast)
        refine ⟨by simp only [bump_len]; omega, h2, h3, fun f hx => ?_⟩
        simp only [bump] at hx
        rcases List.mem_or_eq_of_mem_set hx with h | h
        · exact hmore f h
        · rw [h]
          unfold lastDay
          rw [getD_at _ _ _ hlast]
          exact ⟨l1, l2, by simp only; omega, by simp only; omega⟩
      · exact ⟨by simp; omega, h2, h3, hone _ _ hmore ⟨m1, m2, by omega, by omega⟩⟩
def lotsFor (needs : List Fl) (rule size : Int) : List Fl × Bool :=
  if (lotRule rule size && areFlows needs) && areFlows (lotTo rule size needs needs.length).1 then ((lotTo rule size needs needs.length).1, true) else ([], false)
theorem lotsFor_no {needs : List Fl} {rule size : Int} (h : ((lotRule rule size && areFlows needs) && areFlows (lotTo rule size needs needs.length).1) = false) : lotsFor needs rule size = ([], false) := by unfold lotsFor; rw [h]; rfl
theorem lotsFor_yes {needs : List Fl} {rule size : Int} (h : ((lotRule rule size && areFlows needs) && areFlows (lotTo rule size needs needs.length).1) = true) : lotsFor needs rule size = ((lotTo rule size needs needs.length).1, true) := by unfold lotsFor; rw [h]; rfl
theorem lotsFor_flows (needs : List Fl) (rule size : Int) : areFlows (lotsFor needs rule size).1 = true := by
  unfold lotsFor
  split
  · rename_i h
    simp only [Bool.and_eq_true] at h
    exact h.2
  · rfl
end Go.Proofs.Ytlkolehdikfddaa
