/- Part 26 of the texts of this claim: The walks of GrossOf and NetOf; The walks of FlowUpTo, SpareOn, LackOf, IsKept; The walks of Projected and IsCovered. -/
import Derived.Test.YtlnkofnfgemfdaaGreatTu4
import Derived.Test.YtlnkofnfgemfdaaGreatTu5
import Derived.Test.YtlnkofnfgemfdaaGreatTu25
import Derived.Test.YtlnkofnfgemfdaaGreatTu14
import Derived.Deep.RegionHeld3
/- The walks of GrossOf and NetOf. -/
namespace Go.Proofs.YtlnkofnfgemfdaaGreat
open Go.RowKit
theorem flo_a (n d : Int) (hd : 1 ≤ d) (h : n.tmod d < 0) : n.tdiv d - 1 = n / d := by
  have h1 := @Int.tdiv_eq_ediv n d
  have h2 := @Int.tmod_eq_emod n d
  have h3 : ¬ (0 ≤ n ∨ d ∣ n) := by
    intro hc
    rw [if_pos hc] at h2
    have := Int.emod_nonneg n (show d ≠ 0 by omega)
    omega
  rw [if_neg h3, Int.sign_eq_one_of_pos (by omega)] at h1
  omega
theorem flo_b (n d : Int) (hd : 1 ≤ d) (h : 0 ≤ n.tmod d) : n.tdiv d = n / d := by
  have h1 := @Int.tdiv_eq_ediv n d
  have h2 := @Int.tmod_eq_emod n d
  have h3 : (0 ≤ n ∨ d ∣ n) := by
    by_cases hc : (0 ≤ n ∨ d ∣ n)
    · exact hc
    · rw [if_neg hc] at h2
      have := Int.emod_lt_of_pos n (show 0 < d by omega)
      omega
  rw [if_pos h3] at h1
  omega
theorem tdiv_bd (n d B : Int) (h1 : -B ≤ n) (h2 : n ≤ B) : -B ≤ n.tdiv d ∧ n.tdiv d ≤ B := by
  have h3 : (n.tdiv d).natAbs ≤ n.natAbs := by rw [Int.natAbs_tdiv]; exact Nat.div_le_self _ _
  omega
/-- How many must be begun so that q are good. -/
def grossQ (q s : Int) : Int := -((-(q * 100)) / (100 - s))
def grossOf (x : It) (q : Int) : Int × Bool := if (isItem x && inB q 0 1000000000) = true then (grossQ q x.2.2.2.2.2.2.2, true) else (0, false)
def netOf (x : It) (g : Int) : Int × Bool := if (isItem x && inB g 0 2000000000) = true then (g * (100 - x.2.2.2.2.2.2.2) / 100, true) else (0, false)
theorem grossOf_no {x : It} {q : Int} (h : (isItem x && inB q 0 1000000000) = false) : grossOf x q = (0, false) := by unfold grossOf; rw [if_neg (by rw [h]; decide)]
theorem grossOf_yes {x : It} {q : Int} (h1 : isItem x = true) (h2 : inB q 0 1000000000 = true) : grossOf x q = (grossQ q x.2.2.2.2.2.2.2, true) := by unfold grossOf; rw [if_pos (by rw [h1, h2]; rfl)]
theorem netOf_no {x : It} {q : Int} (h : (isItem x && inB q 0 2000000000) = false) : netOf x q = (0, false) := by unfold netOf; rw [if_neg (by rw [h]; decide)]
theorem netOf_yes {x : It} {q : Int} (h1 : isItem x = true) (h2 : inB q 0 2000000000 = true) : netOf x q = (q * (100 - x.2.2.2.2.2.2.2) / 100, true) := by unfold netOf; rw [if_pos (by rw [h1, h2]; rfl)]
theorem grossQ_bd {q s : Int} (h1 : 0 ≤ q) (h2 : q ≤ 1000000000) (h3 : 0 ≤ s) (h4 : s ≤ 50) : -2000000001 ≤ (-(q * 100)) / (100 - s) ∧ (-(q * 100)) / (100 - s) ≤ 0 := by
  have hd : 0 < 100 - s := by omega
  constructor
  · rw [Int.le_ediv_iff_mul_le hd]
    have : -2000000001 * (100 - s) ≤ -2000000001 * 50 := Int.mul_le_mul_of_nonpos_left (by omega) (by omega)
    omega
  · exact Int.ediv_le_of_le_mul hd (by omega)
/-- What is begun gives at least what is asked. -/
theorem gross_net {q s : Int} (h1 : 0 ≤ q) (h3 : 0 ≤ s) (h4 : s ≤ 50) : q ≤ grossQ q s * (100 - s) / 100 := by
  have hd : 0 < 100 - s := by omega
  rw [Int.le_ediv_iff_mul_le (by omega)]
  unfold grossQ
  have e1 := Int.mul_ediv_add_emod (-(q * 100)) (100 - s)
  have e2 := Int.emod_nonneg (-(q * 100)) (show 100 - s ≠ 0 by omega)
  rw [Int.neg_mul, Int.mul_comm ((-(q * 100)) / (100 - s)) (100 - s)]
  omega
set_option maxRecDepth 100000 in
theorem l2Floor_all (n d : Int) (w : World) (h1 : -1000000000000 ≤ n) (h2 : n ≤ 1000000000000) (h3 : 1 ≤ d) (h4 : d ≤ 1000) : Calls Tryz.prog 106 #[.int .i64 n, .int .i64 d] w fun e w' => e = .returned (.int .i64 (n / d)) ∧ w = w' := by
  obtain ⟨b2, b3⟩ := tdiv_bd n d 1000000000000 h1 h2
  by_cases hm : n.tmod d < 0
  · have HF := Lib.hid (flo_a n d h3 hm)
    go_enter Tryz.func106, Tryz.ntmps106
    go_wp2
    go_ret
    exact ⟨ret_int HF.out, rfl⟩
  · have HF := Lib.hid (flo_b n d h3 (by omega))
    go_enter Tryz.func106, Tryz.ntmps106
    go_wp2
    go_ret
    exact ⟨ret_int HF.out, rfl⟩
set_option maxRecDepth 100000 in
theorem floorOf_all (n d : Int) (w : World) (h1 : -1000000000000 ≤ n) (h2 : n ≤ 1000000000000) (h3 : 1 ≤ d) (h4 : d ≤ 1000) : Calls Tryz.prog 150 #[.int .i64 n, .int .i64 d] w fun e w' => e = .returned (.int .i64 (n / d)) ∧ w = w' := by
  obtain ⟨b2, b3⟩ := tdiv_bd n d 1000000000000 h1 h2
  by_cases hm : n.tmod d < 0
  · have HF := Lib.hid (flo_a n d h3 hm)
    go_enter Tryz.func150, Tryz.ntmps150
    go_wp2
    go_ret
    exact ⟨ret_int HF.out, rfl⟩
  · have HF := Lib.hid (flo_b n d h3 (by omega))
    go_enter Tryz.func150, Tryz.ntmps150
    go_wp2
    go_ret
    exact ⟨ret_int HF.out, rfl⟩
set_option maxRecDepth 100000 in
theorem ceilOf_all (n d : Int) (w : World) (h1 : 0 ≤ n) (h2 : n ≤ 100000000000) (h3 : 1 ≤ d) (h4 : d ≤ 1000) (h5 : -1000000000000 ≤ (-n) / d) (h6 : (-n) / d ≤ 0) : Calls Tryz.prog 121 #[.int .i64 n, .int .i64 d] w fun e w' => e = .returned (.int .i64 (-((-n) / d))) ∧ w = w' := by
  go_enter Tryz.func121, Tryz.ntmps121
  go_wp2_with fail
  refine (floorOf_all _ _ _ (by omega) (by omega) h3 h4).mono ?_
  rintro e w' ⟨rfl, rfl⟩
  go_wp2_with fail
  go_ret
  exact ⟨rfl, rfl⟩
set_option maxRecDepth 100000 in
set_option maxHeartbeats 1000000 in
theorem specGrossOf_any (x : It) (q : Int) (w : World) (hok : okIt x) : Calls Tryz.prog 44 #[.agg #[.string x.1, .string x.2.1, .int .i64 x.2.2.1, .int .i64 x.2.2.2.1, .int .i64 x.2.2.2.2.1, .int .i64 x.2.2.2.2.2.1, .int .i64 x.2.2.2.2.2.2.1, .int .i64 x.2.2.2.2.2.2.2], .int .i64 q] w (PairI w (grossOf x q)) := by
  have hb := below_alloc w (.cells #[.string x.1, .string x.2.1, .int .i64 x.2.2.1, .int .i64 x.2.2.2.1, .int .i64 x.2.2.2.2.1, .int .i64 x.2.2.2.2.2.1, .int .i64 x.2.2.2.2.2.2.1, .int .i64 x.2.2.2.2.2.2.2] 81)
  have B0 : BoxOf (w.alloc (.cells #[.string x.1, .string x.2.1, .int .i64 x.2.2.1, .int .i64 x.2.2.2.1, .int .i64 x.2.2.2.2.1, .int .i64 x.2.2.2.2.2.1, .int .i64 x.2.2.2.2.2.2.1, .int .i64 x.2.2.2.2.2.2.2] 81)) w.heap.size [.string x.1, .string x.2.1, .int .i64 x.2.2.1, .int .i64 x.2.2.2.1, .int .i64 x.2.2.2.2.1, .int .i64 x.2.2.2.2.2.1, .int .i64 x.2.2.2.2.2.2.1, .int .i64 x.2.2.2.2.2.2.2] := boxOf_alloc w #[.string x.1, .string x.2.1, .int .i64 x.2.2.1, .int .i64 x.2.2.2.1, .int .i64 x.2.2.2.2.1, .int .i64 x.2.2.2.2.2.1, .int .i64 x.2.2.2.2.2.2.1, .int .i64 x.2.2.2.2.2.2.2] 81
  cases hi : isItem x
  · have HF : Hid (grossOf x q = (0, false)) := grossOf_no (by rw [hi]; rfl)
    go_enter Tryz.func44, Tryz.ntmps44
    have e7 := B0.2 7 _ rfl
    go_wp2_with fail
    generalize (w.alloc (.cells #[.string x.1, .string x.2.1, .int .i64 x.2.2.1, .int .i64 x.2.2.2.1, .int .i64 x.2.2.2.2.1, .int .i64 x.2.2.2.2.2.1, .int .i64 x.2.2.2.2.2.2.1, .int .i64 x.2.2.2.2.2.2.2] 81)) = V at *
    refine (specIsItem_at x _ hok).mono ?_
    rintro e V1 ⟨rfl, hs⟩
    rw [hi]
    replace hb := below_on hb hs
    replace B0 := B0.keep hs
    clear hs e7
    have e7 := B0.2 7 _ rfl
    have e0 := B0.2 0 _ rfl
    go_wp2_with fail
    go_ret2
    exact pairI_mk HF.out hb
  cases hq : inB q 0 1000000000
  · have HF : Hid (grossOf x q = (0, false)) := grossOf_no (by rw [hi, hq]; rfl)
    go_enter Tryz.func44, Tryz.ntmps44
    have e7 := B0.2 7 _ rfl
    go_wp2_with fail
    generalize (w.alloc (.cells #[.string x.1, .string x.2.1, .int .i64 x.2.2.1, .int .i64 x.2.2.2.1, .int .i64 x.2.2.2.2.1, .int .i64 x.2.2.2.2.2.1, .int .i64 x.2.2.2.2.2.2.1, .int .i64 x.2.2.2.2.2.2.2] 81)) = V at *
    refine (specIsItem_at x _ hok).mono ?_
    rintro e V1 ⟨rfl, hs⟩
    rw [hi]
    replace hb := below_on hb hs
    replace B0 := B0.keep hs
    clear hs e7
    have e7 := B0.2 7 _ rfl
    have e0 := B0.2 0 _ rfl
    go_wp2_with fail
    refine (l1In_any _ _ _ _).mono ?_
    rintro e V2 ⟨rfl, rfl⟩
    rw [hq]
    go_wp2_with fail
    go_ret2
    exact pairI_mk HF.out hb
  have HF := Lib.hid (grossOf_yes hi hq)
  have hq2 := inB_iff.1 hq
  obtain ⟨_, _, _, _, _, hs2, _⟩ := isItem_lots x hi
  obtain ⟨q1, q2⟩ := hq2
  obtain ⟨s1, s2⟩ := hs2
  obtain ⟨s, hsc⟩ : ∃ s, x.2.2.2.2.2.2.2 = s := ⟨_, rfl⟩
  have HSC := Lib.hid hsc
  rw [hsc] at s1 s2
  clear hsc
  obtain ⟨g1, g2⟩ := grossQ_bd q1 q2 s1 s2
  have HG : Hid (grossOf x q = (-((-(q * 100)) / (100 - s)), true)) := by show _ = _; rw [HF.out, HSC.out]; rfl
  go_enter Tryz.func44, Tryz.ntmps44
  have e7 := B0.2 7 _ rfl
  go_wp2_with fail
  generalize (w.alloc (.cells #[.string x.1, .string x.2.1, .int .i64 x.2.2.1, .int .i64 x.2.2.2.1, .int .i64 x.2.2.2.2.1, .int .i64 x.2.2.2.2.2.1, .int .i64 x.2.2.2.2.2.2.1, .int .i64 x.2.2.2.2.2.2.2] 81)) = V at *
  refine (specIsItem_at x _ hok).mono ?_
  rintro e V1 ⟨rfl, hs⟩
  rw [hi]
  replace hb := below_on hb hs
  replace B0 := B0.keep hs
  clear hs e7
  have e7 := B0.2 7 _ rfl
  have e0 := B0.2 0 _ rfl
  go_wp2_with fail
  refine (l1In_any _ _ _ _).mono ?_
  rintro e V2 ⟨rfl, rfl⟩
  rw [hq]
  clear e7 e0
  have e7 := B0.2 7 _ rfl
  rw [HSC.out] at e7
  have w1 : IntKind.i64.wrap (-q * 100) = -(q * 100) := by rw [Int.neg_mul]; exact IntWalk.i64_in _ (by omega)
  go_wp2_with fail
  refine (l2Floor_all _ _ _ (by omega) (by omega) (by omega) (by omega)).mono ?_
  rintro e V3 ⟨rfl, rfl⟩
  go_wp2_with fail
  go_ret2
  exact pairI_mk HG.out hb
set_option maxRecDepth 100000 in
set_option maxHeartbeats 1000000 in
theorem specNetOf_any (x : It) (q : Int) (w : World) (hok : okIt x) : Calls Tryz.prog 136 #[.agg #[.string x.1, .string x.2.1, .int .i64 x.2.2.1, .int .i64 x.2.2.2.1, .int .i64 x.2.2.2.2.1, .int .i64 x.2.2.2.2.2.1, .int .i64 x.2.2.2.2.2.2.1, .int .i64 x.2.2.2.2.2.2.2], .int .i64 q] w (PairI w (netOf x q)) := by
  have hb := below_alloc w (.cells #[.string x.1, .string x.2.1, .int .i64 x.2.2.1, .int .i64 x.2.2.2.1, .int .i64 x.2.2.2.2.1, .int .i64 x.2.2.2.2.2.1, .int .i64 x.2.2.2.2.2.2.1, .int .i64 x.2.2.2.2.2.2.2] 81)
  have B0 : BoxOf (w.alloc (.cells #[.string x.1, .string x.2.1, .int .i64 x.2.2.1, .int .i64 x.2.2.2.1, .int .i64 x.2.2.2.2.1, .int .i64 x.2.2.2.2.2.1, .int .i64 x.2.2.2.2.2.2.1, .int .i64 x.2.2.2.2.2.2.2] 81)) w.heap.size [.string x.1, .string x.2.1, .int .i64 x.2.2.1, .int .i64 x.2.2.2.1, .int .i64 x.2.2.2.2.1, .int .i64 x.2.2.2.2.2.1, .int .i64 x.2.2.2.2.2.2.1, .int .i64 x.2.2.2.2.2.2.2] := boxOf_alloc w #[.string x.1, .string x.2.1, .int .i64 x.2.2.1, .int .i64 x.2.2.2.1, .int .i64 x.2.2.2.2.1, .int .i64 x.2.2.2.2.2.1, .int .i64 x.2.2.2.2.2.2.1, .int .i64 x.2.2.2.2.2.2.2] 81
  cases hi : isItem x
  · have HF : Hid (netOf x q = (0, false)) := netOf_no (by rw [hi]; rfl)
    go_enter Tryz.func136, Tryz.ntmps136
    have e7 := B0.2 7 _ rfl
    go_wp2_with fail
    generalize (w.alloc (.cells #[.string x.1, .string x.2.1, .int .i64 x.2.2.1, .int .i64 x.2.2.2.1, .int .i64 x.2.2.2.2.1, .int .i64 x.2.2.2.2.2.1, .int .i64 x.2.2.2.2.2.2.1, .int .i64 x.2.2.2.2.2.2.2] 81)) = V at *
    refine (specIsItem_at x _ hok).mono ?_
    rintro e V1 ⟨rfl, hs⟩
    rw [hi]
    replace hb := below_on hb hs
    replace B0 := B0.keep hs
    clear hs e7
    have e7 := B0.2 7 _ rfl
    have e0 := B0.2 0 _ rfl
    go_wp2_with fail
    go_ret2
    exact pairI_mk HF.out hb
  cases hq : inB q 0 2000000000
  · have HF : Hid (netOf x q = (0, false)) := netOf_no (by rw [hi, hq]; rfl)
    go_enter Tryz.func136, Tryz.ntmps136
    have e7 := B0.2 7 _ rfl
    go_wp2_with fail
    generalize (w.alloc (.cells #[.string x.1, .string x.2.1, .int .i64 x.2.2.1, .int .i64 x.2.2.2.1, .int .i64 x.2.2.2.2.1, .int .i64 x.2.2.2.2.2.1, .int .i64 x.2.2.2.2.2.2.1, .int .i64 x.2.2.2.2.2.2.2] 81)) = V at *
    refine (specIsItem_at x _ hok).mono ?_
    rintro e V1 ⟨rfl, hs⟩
    rw [hi]
    replace hb := below_on hb hs
    replace B0 := B0.keep hs
    clear hs e7
    have e7 := B0.2 7 _ rfl
    have e0 := B0.2 0 _ rfl
    go_wp2_with fail
    refine (l1In_any _ _ _ _).mono ?_
    rintro e V2 ⟨rfl, rfl⟩
    rw [hq]
    go_wp2_with fail
    go_ret2
    exact pairI_mk HF.out hb
  have HF := Lib.hid (netOf_yes hi hq)
  have hq2 := inB_iff.1 hq
  obtain ⟨_, _, _, _, _, hs2, _⟩ := isItem_lots x hi
  obtain ⟨q1, q2⟩ := hq2
  obtain ⟨s1, s2⟩ := hs2
  obtain ⟨s, hsc⟩ : ∃ s, x.2.2.2.2.2.2.2 = s := ⟨_, rfl⟩
  have HSC := Lib.hid hsc
  rw [hsc] at s1 s2
  clear hsc
  have m1 : 0 ≤ q * (100 - s) := Int.mul_nonneg q1 (by omega)
  have m2 : q * (100 - s) ≤ 2000000000 * 100 := Int.mul_le_mul q2 (by omega) (by omega) (by omega)
  have w1 : IntKind.i64.wrap (q * (100 - s)) = q * (100 - s) := IntWalk.i64_in _ (by omega)
  have t1 : (q * (100 - s)).tdiv 100 = q * (100 - s) / 100 := Int.tdiv_eq_ediv_of_nonneg m1
  have HG : Hid (netOf x q = (q * (100 - s) / 100, true)) := by show _ = _; rw [HF.out, HSC.out]
  go_enter Tryz.func136, Tryz.ntmps136
  have e7 := B0.2 7 _ rfl
  go_wp2_with fail
  generalize (w.alloc (.cells #[.string x.1, .string x.2.1, .int .i64 x.2.2.1, .int .i64 x.2.2.2.1, .int .i64 x.2.2.2.2.1, .int .i64 x.2.2.2.2.2.1, .int .i64 x.2.2.2.2.2.2.1, .int .i64 x.2.2.2.2.2.2.2] 81)) = V at *
  refine (specIsItem_at x _ hok).mono ?_
  rintro e V1 ⟨rfl, hs⟩
  rw [hi]
  replace hb := below_on hb hs
  replace B0 := B0.keep hs
  clear hs e7
  have e7 := B0.2 7 _ rfl
  have e0 := B0.2 0 _ rfl
  go_wp2_with fail
  refine (l1In_any _ _ _ _).mono ?_
  rintro e V2 ⟨rfl, rfl⟩
  rw [hq]
  clear e7 e0
  have e7 := B0.2 7 _ rfl
  rw [HSC.out] at e7
  go_wp2_with fail
  go_ret2
  exact pairI_mk HG.out hb
set_option maxRecDepth 100000 in
set_option maxHeartbeats 1000000 in
theorem implGrossOf_any (x : It) (q : Int) (w : World) (hok : okIt x) : Calls Tryz.prog 60 #[.agg #[.string x.1, .string x.2.1, .int .i64 x.2.2.1, .int .i64 x.2.2.2.1, .int .i64 x.2.2.2.2.1, .int .i64 x.2.2.2.2.2.1, .int .i64 x.2.2.2.2.2.2.1, .int .i64 x.2.2.2.2.2.2.2], .int .i64 q] w (PairI w (grossOf x q)) := by
  have hb := below_alloc w (.cells #[.string x.1, .string x.2.1, .int .i64 x.2.2.1, .int .i64 x.2.2.2.1, .int .i64 x.2.2.2.2.1, .int .i64 x.2.2.2.2.2.1, .int .i64 x.2.2.2.2.2.2.1, .int .i64 x.2.2.2.2.2.2.2] 81)
  have B0 : BoxOf (w.alloc (.cells #[.string x.1, .string x.2.1, .int .i64 x.2.2.1, .int .i64 x.2.2.2.1, .int .i64 x.2.2.2.2.1, .int .i64 x.2.2.2.2.2.1, .int .i64 x.2.2.2.2.2.2.1, .int .i64 x.2.2.2.2.2.2.2] 81)) w.heap.size [.string x.1, .string x.2.1, .int .i64 x.2.2.1, .int .i64 x.2.2.2.1, .int .i64 x.2.2.2.2.1, .int .i64 x.2.2.2.2.2.1, .int .i64 x.2.2.2.2.2.2.1, .int .i64 x.2.2.2.2.2.2.2] := boxOf_alloc w #[.string x.1, .string x.2.1, .int .i64 x.2.2.1, .int .i64 x.2.2.2.1, .int .i64 x.2.2.2.2.1, .int .i64 x.2.2.2.2.2.1, .int .i64 x.2.2.2.2.2.2.1, .int .i64 x.2.2.2.2.2.2.2] 81
  cases hi : isItem x
  · have HF : Hid (grossOf x q = (0, false)) := grossOf_no (by rw [hi]; rfl)
    go_enter Tryz.func60, Tryz.ntmps60
    have e7 := B0.2 7 _ rfl
    go_wp2_with fail
    generalize (w.alloc (.cells #[.string x.1, .string x.2.1, .int .i64 x.2.2.1, .int .i64 x.2.2.2.1, .int .i64 x.2.2.2.2.1, .int .i64 x.2.2.2.2.2.1, .int .i64 x.2.2.2.2.2.2.1, .int .i64 x.2.2.2.2.2.2.2] 81)) = V at *
    refine (implIsItem_at x _ hok).mono ?_
    rintro e V1 ⟨rfl, hs⟩
    rw [hi]
    replace hb := below_on hb hs
    replace B0 := B0.keep hs
    clear hs e7
    have e7 := B0.2 7 _ rfl
    have e0 := B0.2 0 _ rfl
    go_wp2_with fail
    go_ret2
    exact pairI_mk HF.out hb
  cases hq : inB q 0 1000000000
  · have HF : Hid (grossOf x q = (0, false)) := grossOf_no (by rw [hi, hq]; rfl)
    go_enter Tryz.func60, Tryz.ntmps60
    have e7 := B0.2 7 _ rfl
    go_wp2_with fail
    generalize (w.alloc (.cells #[.string x.1, .string x.2.1, .int .i64 x.2.2.1, .int .i64 x.2.2.2.1, .int .i64 x.2.2.2.2.1, .int .i64 x.2.2.2.2.2.1, .int .i64 x.2.2.2.2.2.2.1, .int .i64 x.2.2.2.2.2.2.2] 81)) = V at *
    refine (implIsItem_at x _ hok).mono ?_
    rintro e V1 ⟨rfl, hs⟩
    rw [hi]
    replace hb := below_on hb hs
    replace B0 := B0.keep hs
    clear hs e7
    have e7 := B0.2 7 _ rfl
    have e0 := B0.2 0 _ rfl
    go_wp2_with fail
    refine (in_any _ _ _ _).mono ?_
    rintro e V2 ⟨rfl, rfl⟩
    rw [hq]
    go_wp2_with fail
    go_ret2
    exact pairI_mk HF.out hb
  have HF := Lib.hid (grossOf_yes hi hq)
  have hq2 := inB_iff.1 hq
  obtain ⟨_, _, _, _, _, hs2, _⟩ := isItem_lots x hi
  obtain ⟨q1, q2⟩ := hq2
  obtain ⟨s1, s2⟩ := hs2
  obtain ⟨s, hsc⟩ : ∃ s, x.2.2.2.2.2.2.2 = s := ⟨_, rfl⟩
  have HSC := Lib.hid hsc
  rw [hsc] at s1 s2
  clear hsc
  obtain ⟨g1, g2⟩ := grossQ_bd q1 q2 s1 s2
  have HG : Hid (grossOf x q = (-((-(q * 100)) / (100 - s)), true)) := by show _ = _; rw [HF.out, HSC.out]; rfl
  go_enter Tryz.func60, Tryz.ntmps60
  have e7 := B0.2 7 _ rfl
  go_wp2_with fail
  generalize (w.alloc (.cells #[.string x.1, .string x.2.1, .int .i64 x.2.2.1, .int .i64 x.2.2.2.1, .int .i64 x.2.2.2.2.1, .int .i64 x.2.2.2.2.2.1, .int .i64 x.2.2.2.2.2.2.1, .int .i64 x.2.2.2.2.2.2.2] 81)) = V at *
  refine (implIsItem_at x _ hok).mono ?_
  rintro e V1 ⟨rfl, hs⟩
  rw [hi]
  replace hb := below_on hb hs
  replace B0 := B0.keep hs
  clear hs e7
  have e7 := B0.2 7 _ rfl
  have e0 := B0.2 0 _ rfl
  go_wp2_with fail
  refine (in_any _ _ _ _).mono ?_
  rintro e V2 ⟨rfl, rfl⟩
  rw [hq]
  clear e7 e0
  have e7 := B0.2 7 _ rfl
  rw [HSC.out] at e7
  go_wp2_with fail
  refine (ceilOf_all _ _ _ (by omega) (by omega) (by omega) (by omega) (by omega) (by omega)).mono ?_
  rintro e V3 ⟨rfl, rfl⟩
  go_wp2_with fail
  go_ret2
  exact pairI_mk HG.out hb
set_option maxRecDepth 100000 in
set_option maxHeartbeats 1000000 in
theorem implNetOf_any (x : It) (q : Int) (w : World) (hok : okIt x) : Calls Tryz.prog 88 #[.agg #[.string x.1, .string x.2.1, .int .i64 x.2.2.1, .int .i64 x.2.2.2.1, .int .i64 x.2.2.2.2.1, .int .i64 x.2.2.2.2.2.1, .int .i64 x.2.2.2.2.2.2.1, .int .i64 x.2.2.2.2.2.2.2], .int .i64 q] w (PairI w (netOf x q)) := by
  have hb := below_alloc w (.cells #[.string x.1, .string x.2.1, .int .i64 x.2.2.1, .int .i64 x.2.2.2.1, .int .i64 x.2.2.2.2.1, .int .i64 x.2.2.2.2.2.1, .int .i64 x.2.2.2.2.2.2.1, .int .i64 x.2.2.2.2.2.2.2] 81)
  have B0 : BoxOf (w.alloc (.cells #[.string x.1, .string x.2.1, .int .i64 x.2.2.1, .int .i64 x.2.2.2.1, .int .i64 x.2.2.2.2.1, .int .i64 x.2.2.2.2.2.1, .int .i64 x.2.2.2.2.2.2.1, .int .i64 x.2.2.2.2.2.2.2] 81)) w.heap.size [.string x.1, .string x.2.1, .int .i64 x.2.2.1, .int .i64 x.2.2.2.1, .int .i64 x.2.2.2.2.1, .int .i64 x.2.2.2.2.2.1, .int .i64 x.2.2.2.2.2.2.1, .int .i64 x.2.2.2.2.2.2.2] := boxOf_alloc w #[.string x.1, .string x.2.1, .int .i64 x.2.2.1, .int .i64 x.2.2.2.1, .int .i64 x.2.2.2.2.1, .int .i64 x.2.2.2.2.2.1, .int .i64 x.2.2.2.2.2.2.1, .int .i64 x.2.2.2.2.2.2.2] 81
  cases hi : isItem x
  · have HF : Hid (netOf x q = (0, false)) := netOf_no (by rw [hi]; rfl)
    go_enter Tryz.func88, Tryz.ntmps88
    have e7 := B0.2 7 _ rfl
    go_wp2_with fail
    generalize (w.alloc (.cells #[.string x.1, .string x.2.1, .int .i64 x.2.2.1, .int .i64 x.2.2.2.1, .int .i64 x.2.2.2.2.1, .int .i64 x.2.2.2.2.2.1, .int .i64 x.2.2.2.2.2.2.1, .int .i64 x.2.2.2.2.2.2.2] 81)) = V at *
    refine (implIsItem_at x _ hok).mono ?_
    rintro e V1 ⟨rfl, hs⟩
    rw [hi]
    replace hb := below_on hb hs
    replace B0 := B0.keep hs
    clear hs e7
    have e7 := B0.2 7 _ rfl
    have e0 := B0.2 0 _ rfl
    go_wp2_with fail
    go_ret2
    exact pairI_mk HF.out hb
  cases hq : inB q 0 2000000000
  · have HF : Hid (netOf x q = (0, false)) := netOf_no (by rw [hi, hq]; rfl)
    go_enter Tryz.func88, Tryz.ntmps88
    have e7 := B0.2 7 _ rfl
    go_wp2_with fail
    generalize (w.alloc (.cells #[.string x.1, .string x.2.1, .int .i64 x.2.2.1, .int .i64 x.2.2.2.1, .int .i64 x.2.2.2.2.1, .int .i64 x.2.2.2.2.2.1, .int .i64 x.2.2.2.2.2.2.1, .int .i64 x.2.2.2.2.2.2.2] 81)) = V at *
    refine (implIsItem_at x _ hok).mono ?_
    rintro e V1 ⟨rfl, hs⟩
    rw [hi]
    replace hb := below_on hb hs
    replace B0 := B0.keep hs
    clear hs e7
    have e7 := B0.2 7 _ rfl
    have e0 := B0.2 0 _ rfl
    go_wp2_with fail
    refine (in_any _ _ _ _).mono ?_
    rintro e V2 ⟨rfl, rfl⟩
    rw [hq]
    go_wp2_with fail
    go_ret2
    exact pairI_mk HF.out hb
  have HF := Lib.hid (netOf_yes hi hq)
  have hq2 := inB_iff.1 hq
  obtain ⟨_, _, _, _, _, hs2, _⟩ := isItem_lots x hi
  obtain ⟨q1, q2⟩ := hq2
  obtain ⟨s1, s2⟩ := hs2
  obtain ⟨s, hsc⟩ : ∃ s, x.2.2.2.2.2.2.2 = s := ⟨_, rfl⟩
  have HSC := Lib.hid hsc
  rw [hsc] at s1 s2
  clear hsc
  have m1 : 0 ≤ q * (100 - s) := Int.mul_nonneg q1 (by omega)
  have m2 : q * (100 - s) ≤ 2000000000 * 100 := Int.mul_le_mul q2 (by omega) (by omega) (by omega)
  have w1 : IntKind.i64.wrap (q * (100 - s)) = q * (100 - s) := IntWalk.i64_in _ (by omega)
  have t1 : (q * (100 - s)).tdiv 100 = q * (100 - s) / 100 := Int.tdiv_eq_ediv_of_nonneg m1
  have HG : Hid (netOf x q = (q * (100 - s) / 100, true)) := by show _ = _; rw [HF.out, HSC.out]
  go_enter Tryz.func88, Tryz.ntmps88
  have e7 := B0.2 7 _ rfl
  go_wp2_with fail
  generalize (w.alloc (.cells #[.string x.1, .string x.2.1, .int .i64 x.2.2.1, .int .i64 x.2.2.2.1, .int .i64 x.2.2.2.2.1, .int .i64 x.2.2.2.2.2.1, .int .i64 x.2.2.2.2.2.2.1, .int .i64 x.2.2.2.2.2.2.2] 81)) = V at *
  refine (implIsItem_at x _ hok).mono ?_
  rintro e V1 ⟨rfl, hs⟩
  rw [hi]
  replace hb := below_on hb hs
  replace B0 := B0.keep hs
  clear hs e7
  have e7 := B0.2 7 _ rfl
  have e0 := B0.2 0 _ rfl
  go_wp2_with fail
  refine (in_any _ _ _ _).mono ?_
  rintro e V2 ⟨rfl, rfl⟩
  rw [hq]
  clear e7 e0
  have e7 := B0.2 7 _ rfl
  rw [HSC.out] at e7
  go_wp2_with fail
  go_ret2
  exact pairI_mk HG.out hb
end Go.Proofs.YtlnkofnfgemfdaaGreat
/- The walks of FlowUpTo, SpareOn, LackOf, IsKept. -/
namespace Go.Proofs.YtlnkofnfgemfdaaGreat
open Go.RowKit
def pairV (p : Int × Bool) : Value := .tuple #[.int .i64 p.1, .bool p.2]
theorem ret_pair {p q : Int × Bool} (h : p = q) : Ending.returned (.tuple #[.int .i64 p.1, .bool p.2]) = .returned (pairV q) := by rw [h, pairV]

set_option maxRecDepth 100000 in
set_option maxHeartbeats 1000000 in
theorem specFlowUpTo_any (A : Option Addr) (n c : Nat) (l : List Fl) (d : Int) (w : World) (hl : FlowsIn w A n l) :
    Calls Tryz.prog 102 #[.slice A n c, .int .i64 d] w fun e w' => e = .returned (.int .i64 (flowUpTo l d)) ∧ Drew w w' := by
  have hn := hl.len
  have hl0 := hl
  obtain rfl := hl.1
  cases hf : areFlows l
  · by_cases h0 : 0 < l.length
    all_goals
      go_enter Tryz.func102, Tryz.ntmps102
      go_wp2
      refine wp_loop_rounds 1 ?_
      rw [rounds_succ]
      go_wp2_with (go_at_call 39; refine (specAreFlows_any _ _ _ l _ hl).mono ?_; rintro e w1 ⟨rfl, hd⟩)
      go_ret
      first
        | exact ⟨ret_int (flowUpTo_no hf d).symm, hd⟩
        | exact ⟨ret_int (flowUpTo_no hf d).symm, Drew.refl _⟩
  have HB := Lib.hid (areFlows_bd hf d)
  go_enter Tryz.func102, Tryz.ntmps102
  go_wp2
  go_loopw [5, 6] (fun s i wr => ∃ k : Nat, k ≤ l.length ∧ i = .int .i64 k ∧ s = .int .i64 (upTo (l.take k) d) ∧ Drew w wr) (fun _ i _ => l.length - (intOf i).toNat)
  case atStart => exact ⟨0, by omega, rfl, rfl, Drew.refl _⟩
  case round =>
    obtain ⟨k, hk, rfl, rfl, HD⟩ := hrel
    by_cases hlt : k < l.length
    · obtain ⟨b, o, rfl, _, hc1, hc2⟩ := flow_at (hl.keep (HD.below _)) hlt
      have HT := Lib.hid (upTo_take l d k hlt)
      obtain ⟨b1, b2⟩ := HB.out k
      obtain ⟨b3, b4⟩ := (areFlows_mem hf l[k] (List.getElem_mem hlt)).2
      by_cases hday : l[k].1 ≤ d
      all_goals
        go_wp2_with (go_at_call 39; refine (specAreFlows_any _ _ _ l _ (hl.keep (HD.below _))).mono ?_; rintro e w1 ⟨rfl, ⟨q, rfl⟩⟩)
        go_roundw
        case rel =>
          refine ⟨k + 1, by omega, by go_num, ?_, HD.more _⟩
          rw [HT.out]
          (first | rw [if_pos (by omega)] | rw [if_neg (by omega)])
          all_goals (first | rfl | go_num)
        case measure => simp [intOf]; omega
    · obtain rfl : k = l.length := by omega
      go_wp2
      go_ret
      exact ⟨ret_int (by rw [flowUpTo_yes hf, List.take_length]), HD⟩
set_option maxRecDepth 100000 in
set_option maxHeartbeats 1000000 in
theorem implFlowUpTo_any (A : Option Addr) (n c : Nat) (l : List Fl) (d : Int) (w : World) (hl : FlowsIn w A n l) :
    Calls Tryz.prog 91 #[.slice A n c, .int .i64 d] w fun e w' => e = .returned (.int .i64 (flowUpTo l d)) ∧ Below w.heap.size w w' := by
  have hn := hl.len
  obtain rfl := hl.1
  cases hf : areFlows l
  · go_enter Tryz.func91, Tryz.ntmps91
    go_wp2_with (go_at_call 55; refine (implAreFlows_any _ _ _ l _ hl).mono ?_; rintro e w1 ⟨rfl, hb⟩)
    go_ret
    exact ⟨ret_int (flowUpTo_no hf d).symm, hb⟩
  have HB := Lib.hid (areFlows_bd hf d)
  go_enter Tryz.func91, Tryz.ntmps91
  go_wp2_with (go_at_call 55; refine (implAreFlows_any _ _ _ l _ hl).mono ?_; rintro e w1 ⟨rfl, hb⟩)
  go_loopw [5, 13] (fun s i wr => ∃ k : Nat, k ≤ l.length ∧ i = .int .i64 k ∧ s = .int .i64 (upTo (l.take k) d) ∧ Below w.heap.size w wr) (fun _ i _ => l.length - (intOf i).toNat)
  case atStart => exact ⟨0, by omega, rfl, rfl, hb⟩
  case round =>
    obtain ⟨k, hk, rfl, rfl, HD⟩ := hrel
    by_cases hlt : k < l.length
    · obtain ⟨b, o, rfl, _, hc1, hc2⟩ := flow_at (hl.keep HD) hlt
      have hsz := HD.size
      have HT := Lib.hid (upTo_take l d k hlt)
      obtain ⟨b1, b2⟩ := HB.out k
      obtain ⟨b3, b4⟩ := (areFlows_mem hf l[k] (List.getElem_mem hlt)).2
      by_cases hday : l[k].1 ≤ d
      all_goals
        go_wp2
        go_roundw
        case rel =>
          refine ⟨k + 1, by omega, by go_num, ?_, HD.alloc (by omega) _⟩
          rw [HT.out]
          (first | rw [if_pos (by omega)] | rw [if_neg (by omega)])
          all_goals (first | rfl | go_num)
        case measure => simp [intOf]; omega
    · obtain rfl : k = l.length := by omega
      go_wp2
      go_ret
      exact ⟨ret_int (by rw [flowUpTo_yes hf, List.take_length]), HD⟩
end Go.Proofs.YtlnkofnfgemfdaaGreat
/- The walks of Projected and IsCovered. -/
namespace Go.Proofs.YtlnkofnfgemfdaaGreat
open Go.RowKit
def projected (rcv dem : List Fl) (stock d : Int) : Int := if inB stock 0 1000000000 && (areFlows rcv && areFlows dem) then stock + flowUpTo rcv d - flowUpTo dem d else 0
theorem projected_no {rcv dem : List Fl} {stock d : Int} (h : (inB stock 0 1000000000 && (areFlows rcv && areFlows dem)) = false) : projected rcv dem stock d = 0 := by simp [projected, h]
theorem projected_yes {rcv dem : List Fl} {stock : Int} (h1 : inB stock 0 1000000000 = true) (h2 : areFlows rcv = true) (h3 : areFlows dem = true) (d : Int) : projected rcv dem stock d = stock + flowUpTo rcv d - flowUpTo dem d := by simp [projected, h1, h2, h3]
theorem projected_bd {rcv dem : List Fl} {stock d : Int} : -40000000000 ≤ projected rcv dem stock d ∧ projected rcv dem stock d ≤ 41000000000 := by
  unfold projected
  split
  · rename_i h
    simp only [Bool.and_eq_true, inB_iff] at h
    have h1 := flowUpTo_bd rcv d
    have h2 := flowUpTo_bd dem d
    omega
  · omega
def isCovered (rcv dem : List Fl) (stock safety : Int) : Bool :=
  (inB stock 0 1000000000 && (inB safety 0 1000000000 && (areFlows rcv && areFlows dem))) && (List.range 1000).all fun d => decide (safety ≤ projected rcv dem stock d)
theorem isCovered_no {rcv dem : List Fl} {stock safety : Int} (h : (inB stock 0 1000000000 && (inB safety 0 1000000000 && (areFlows rcv && areFlows dem))) = false) : isCovered rcv dem stock safety = false := by
  unfold isCovered; rw [h]; rfl
theorem isCovered_at {rcv dem : List Fl} {stock safety : Int} {k : Nat} (hk : k < 1000) (h : projected rcv dem stock k < safety) : isCovered rcv dem stock safety = false := by
  unfold isCovered
  have : ((List.range 1000).all fun d => decide (safety ≤ projected rcv dem stock d)) = false := by
    rw [List.all_eq_false]
    exact ⟨k, by rw [List.mem_range]; exact hk, by simp; omega⟩
  rw [this, Bool.and_false]
theorem isCovered_yes {rcv dem : List Fl} {stock safety : Int} (h1 : inB stock 0 1000000000 = true) (h2 : inB safety 0 1000000000 = true) (h3 : areFlows rcv = true) (h4 : areFlows dem = true) (h : ∀ k : Nat, k < 1000 → safety ≤ projected rcv dem stock k) : isCovered rcv dem stock safety = true := by
  unfold isCovered
  have : ((List.range 1000).all fun d => decide (safety ≤ projected rcv dem stock d)) = true := by
    rw [List.all_eq_true]
    intro k hk
    rw [List.mem_range] at hk
    exact decide_eq_true (h k hk)
  rw [this, h1, h2, h3, h4]; rfl
set_option maxRecDepth 100000 in
set_option maxHeartbeats 1000000 in
theorem implProjected_any (A B : Option Addr) (n m c c2 : Nat) (rcv dem : List Fl) (stock d : Int) (w : World) (ha : FlowsIn w A n rcv) (hm : FlowsIn w B m dem) :
    Calls Tryz.prog 118 #[.int .i64 stock, .slice A n c, .slice B m c2, .int .i64 d] w fun e w' => e = .returned (.int .i64 (projected rcv dem stock d)) ∧ Below w.heap.size w w' := by
  have hb : Below w.heap.size w w := Below.refl _ _
  go_enter Tryz.func118, Tryz.ntmps118
  go_wp2_with fail
  refine (in_any _ _ _ _).mono ?_
  rintro e v ⟨rfl, rfl⟩
  cases g1 : inB stock 0 1000000000
  · go_wp2_with fail
    go_ret
    exact ⟨ret_int (projected_no (by simp [g1])).symm, hb⟩
  go_wp2_with fail
  refine (implAreFlows_any _ _ _ rcv _ (ha.keep hb)).mono ?_
  rintro e u2 ⟨rfl, hs⟩
  replace hb := below_on hb hs
  clear hs
  cases g2 : areFlows rcv
  · go_wp2_with fail
    go_ret
    exact ⟨ret_int (projected_no (by simp [g2])).symm, hb⟩
  go_wp2_with fail
  refine (implAreFlows_any _ _ _ dem _ (hm.keep hb)).mono ?_
  rintro e u3 ⟨rfl, hs⟩
  replace hb := below_on hb hs
  clear hs
  cases g3 : areFlows dem
  · go_wp2_with fail
    go_ret
    exact ⟨ret_int (projected_no (by simp [g3])).symm, hb⟩
  obtain ⟨b1, b2⟩ := flowUpTo_bd rcv d
  obtain ⟨b3, b4⟩ := flowUpTo_bd dem d
  obtain ⟨b5, b6⟩ := inB_iff.1 g1
  go_wp2_with fail
  refine (implFlowUpTo_any _ _ _ rcv d _ (ha.keep hb)).mono ?_
  rintro e v1 ⟨rfl, hs⟩
  replace hb := below_on hb hs
  clear hs
  go_wp2_with fail
  refine (implFlowUpTo_any _ _ _ dem d _ (hm.keep hb)).mono ?_
  rintro e v2 ⟨rfl, hs⟩
  replace hb := below_on hb hs
  clear hs
  go_wp2_with fail
  go_ret
  exact ⟨ret_int (projected_yes g1 g2 g3 d).symm, hb⟩
end Go.Proofs.YtlnkofnfgemfdaaGreat
