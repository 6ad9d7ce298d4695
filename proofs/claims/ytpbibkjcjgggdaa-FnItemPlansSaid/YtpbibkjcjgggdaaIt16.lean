/- Part 16 of the texts of this claim: The walks of GrossOf and NetOf. -/
import Derived.Test.YtpbibkjcjgggdaaIt8
import Derived.Test.YtpbibkjcjgggdaaIt9
import Derived.Test.YtpbibkjcjgggdaaIt15
/- The walks of GrossOf and NetOf. -/
namespace Go.Proofs.Ytpbibkjcjgggdaa
open Go.RowKit
theorem flo_a (n d : Int) (hd : 1 ≤ d) (h : n.tmod d < 0) : n.tdiv d - 1 = n / d := by
  have h1 := @Int.tdiv_eq_ediv n d
  have h2 := @Int.tmod_eq_emod n d
  have h3 : ¬ (0 ≤ n ∨ d ∣ n) := by
    intro hc
    rw [if_pos hc] at h2
    have := Int.emod_nonneg n (show d ≠ 0 by omega)
    omega
  rw [if_neg h3, Int.sign_eq_one_of_pos (by omega)] at h1
  omega
theorem flo_b (n d : Int) (hd : 1 ≤ d) (h : 0 ≤ n.tmod d) : n.tdiv d = n / d := by
  have h1 := @Int.tdiv_eq_ediv n d
  have h2 := @Int.tmod_eq_emod n d
  have h3 : (0 ≤ n ∨ d ∣ n) := by
    by_cases hc : (0 ≤ n ∨ d ∣ n)
    · exact hc
    · rw [if_neg hc] at h2
      have := Int.emod_lt_of_pos n (show 0 < d by omega)
      omega
  rw [if_pos h3] at h1
  omega
theorem tdiv_bd (n d B : Int) (h1 : -B ≤ n) (h2 : n ≤ B) : -B ≤ n.tdiv d ∧ n.tdiv d ≤ B := by
  have h3 : (n.tdiv d).natAbs ≤ n.natAbs := by rw [Int.natAbs_tdiv]; exact Nat.div_le_self _ _
  omega
/-- How many must be begun so that q are good. -/
def grossQ (q s : Int) : Int := -((-(q * 100)) / (100 - s))
def grossOf (x : It) (q : Int) : Int × Bool := if (isItem x && inB q 0 1000000000) = true then (grossQ q x.2.2.2.2.2.2.2, true) else (0, false)
def netOf (x : It) (g : Int) : Int × Bool := if (isItem x && inB g 0 2000000000) = true then (g * (100 - x.2.2.2.2.2.2.2) / 100, true) else (0, false)
theorem grossOf_no {x : It} {q : Int} (h : (isItem x && inB q 0 1000000000) = false) : grossOf x q = (0, false) := by unfold grossOf; rw [if_neg (by rw [h]; decide)]
theorem grossOf_yes {x : It} {q : Int} (h1 : isItem x = true) (h2 : inB q 0 1000000000 = true) : grossOf x q = (grossQ q x.2.2.2.2.2.2.2, true) := by unfold grossOf; rw [if_pos (by rw [h1, h2]; rfl)]
theorem netOf_no {x : It} {q : Int} (h : (isItem x && inB q 0 2000000000) = false) : netOf x q = (0, false) := by unfold netOf; rw [if_neg (by rw [h]; decide)]
theorem netOf_yes {x : It} {q : Int} (h1 : isItem x = true) (h2 : inB q 0 2000000000 = true) : netOf x q = (q * (100 - x.2.2.2.2.2.2.2) / 100, true) := by unfold netOf; rw [if_pos (by rw [h1, h2]; rfl)]
theorem grossQ_bd {q s : Int} (h1 : 0 ≤ q) (h2 : q ≤ 1000000000) (h3 : 0 ≤ s) (h4 : s ≤ 50) : -2000000001 ≤ (-(q * 100)) / (100 - s) ∧ (-(q * 100)) / (100 - s) ≤ 0 := by
  have hd : 0 < 100 - s := by omega
  constructor
  · rw [Int.le_ediv_iff_mul_le hd]
    have : -2000000001 * (100 - s) ≤ -2000000001 * 50 := Int.mul_le_mul_of_nonpos_left (by omega) (by omega)
    omega
  · exact Int.ediv_le_of_le_mul hd (by omega)
/-- What is begun gives at least what is asked. -/
theorem gross_net {q s : Int} (h1 : 0 ≤ q) (h3 : 0 ≤ s) (h4 : s ≤ 50) : q ≤ grossQ q s * (100 - s) / 100 := by
  have hd : 0 < 100 - s := by omega
  rw [Int.le_ediv_iff_mul_le (by omega)]
  unfold grossQ
  have e1 := Int.mul_ediv_add_emod (-(q * 100)) (100 - s)
  have e2 := Int.emod_nonneg (-(q * 100)) (show 100 - s ≠ 0 by omega)
  rw [Int.neg_mul, Int.mul_comm ((-(q * 100)) / (100 - s)) (100 - s)]
  omega
set_option maxRecDepth 100000 in
theorem l2Floor_all (n d : Int) (w : World) (h1 : -1000000000000 ≤ n) (h2 : n ≤ 1000000000000) (h3 : 1 ≤ d) (h4 : d ≤ 1000) : Calls Try.prog 61 #[.int .i64 n, .int .i64 d] w fun e w' => e = .returned (.int .i64 (n / d)) ∧ w = w' := by
  obtain ⟨b2, b3⟩ := tdiv_bd n d 1000000000000 h1 h2
  by_cases hm : n.tmod d < 0
  · have HF := Lib.hid (flo_a n d h3 hm)
    go_enter Try.func61, Try.ntmps61
    go_wp2
    go_ret
    exact ⟨ret_int HF.out, rfl⟩
  · have HF := Lib.hid (flo_b n d h3 (by omega))
    go_enter Try.func61, Try.ntmps61
    go_wp2
    go_ret
    exact ⟨ret_int HF.out, rfl⟩
set_option maxRecDepth 100000 in
theorem floorOf_all (n d : Int) (w : World) (h1 : -1000000000000 ≤ n) (h2 : n ≤ 1000000000000) (h3 : 1 ≤ d) (h4 : d ≤ 1000) : Calls Try.prog 71 #[.int .i64 n, .int .i64 d] w fun e w' => e = .returned (.int .i64 (n / d)) ∧ w = w' := by
  obtain ⟨b2, b3⟩ := tdiv_bd n d 1000000000000 h1 h2
  by_cases hm : n.tmod d < 0
  · have HF := Lib.hid (flo_a n d h3 hm)
    go_enter Try.func71, Try.ntmps71
    go_wp2
    go_ret
    exact ⟨ret_int HF.out, rfl⟩
  · have HF := Lib.hid (flo_b n d h3 (by omega))
    go_enter Try.func71, Try.ntmps71
    go_wp2
    go_ret
    exact ⟨ret_int HF.out, rfl⟩
set_option maxRecDepth 100000 in
theorem ceilOf_all (n d : Int) (w : World) (h1 : 0 ≤ n) (h2 : n ≤ 100000000000) (h3 : 1 ≤ d) (h4 : d ≤ 1000) (h5 : -1000000000000 ≤ (-n) / d) (h6 : (-n) / d ≤ 0) : Calls Try.prog 55 #[.int .i64 n, .int .i64 d] w fun e w' => e = .returned (.int .i64 (-((-n) / d))) ∧ w = w' := by
  go_enter Try.func55, Try.ntmps55
  go_wp2_with fail
  refine (floorOf_all _ _ _ (by omega) (by omega) h3 h4).mono ?_
  rintro e w' ⟨rfl, rfl⟩
  go_wp2_with fail
  go_ret
  exact ⟨rfl, rfl⟩
set_option maxRecDepth 100000 in
set_option maxHeartbeats 1000000 in
theorem specGrossOf_any (x : It) (q : Int) (w : World) (hok : okIt x) : Calls Try.prog 32 #[.agg #[.string x.1, .string x.2.1, .int .i64 x.2.2.1, .int .i64 x.2.2.2.1, .int .i64 x.2.2.2.2.1, .int .i64 x.2.2.2.2.2.1, .int .i64 x.2.2.2.2.2.2.1, .int .i64 x.2.2.2.2.2.2.2], .int .i64 q] w (PairI w (grossOf x q)) := by
  have hb := below_alloc w (.cells #[.string x.1, .string x.2.1, .int .i64 x.2.2.1, .int .i64 x.2.2.2.1, .int .i64 x.2.2.2.2.1, .int .i64 x.2.2.2.2.2.1, .int .i64 x.2.2.2.2.2.2.1, .int .i64 x.2.2.2.2.2.2.2] 42)
  have B0 : BoxOf (w.alloc (.cells #[.string x.1, .string x.2.1, .int .i64 x.2.2.1, .int .i64 x.2.2.2.1, .int .i64 x.2.2.2.2.1, .int .i64 x.2.2.2.2.2.1, .int .i64 x.2.2.2.2.2.2.1, .int .i64 x.2.2.2.2.2.2.2] 42)) w.heap.size [.string x.1, .string x.2.1, .int .i64 x.2.2.1, .int .i64 x.2.2.2.1, .int .i64 x.2.2.2.2.1, .int .i64 x.2.2.2.2.2.1, .int .i64 x.2.2.2.2.2.2.1, .int .i64 x.2.2.2.2.2.2.2] := boxOf_alloc w #[.string x.1, .string x.2.1, .int .i64 x.2.2.1, .int .i64 x.2.2.2.1, .int .i64 x.2.2.2.2.1, .int .i64 x.2.2.2.2.2.1, .int .i64 x.2.2.2.2.2.2.1, .int .i64 x.2.2.2.2.2.2.2] 42
  cases hi : isItem x
  · have HF : Hid (grossOf x q = (0, false)) := grossOf_no (by rw [hi]; rfl)
    go_enter Try.func32, Try.ntmps32
    have e7 := B0.2 7 _ rfl
    go_wp2_with fail
    generalize (w.alloc (.cells #[.string x.1, .string x.2.1, .int .i64 x.2.2.1, .int .i64 x.2.2.2.1, .int .i64 x.2.2.2.2.1, .int .i64 x.2.2.2.2.2.1, .int .i64 x.2.2.2.2.2.2.1, .int .i64 x.2.2.2.2.2.2.2] 42)) = V at *
    refine (specIsItem_at x _ hok).mono ?_
    rintro e V1 ⟨rfl, hs⟩
    rw [hi]
    replace hb := below_on hb hs
    replace B0 := B0.keep hs
    clear hs e7
    have e7 := B0.2 7 _ rfl
    have e0 := B0.2 0 _ rfl
    go_wp2_with fail
    go_ret2
    exact pairI_mk HF.out hb
  cases hq : inB q 0 1000000000
  · have HF : Hid (grossOf x q = (0, false)) := grossOf_no (by rw [hi, hq]; rfl)
    go_enter Try.func32, Try.ntmps32
    have e7 := B0.2 7 _ rfl
    go_wp2_with fail
    generalize (w.alloc (.cells #[.string x.1, .string x.2.1, .int .i64 x.2.2.1, .int .i64 x.2.2.2.1, .int .i64 x.2.2.2.2.1, .int .i64 x.2.2.2.2.2.1, .int .i64 x.2.2.2.2.2.2.1, .int .i64 x.2.2.2.2.2.2.2] 42)) = V at *
    refine (specIsItem_at x _ hok).mono ?_
    rintro e V1 ⟨rfl, hs⟩
    rw [hi]
    replace hb := below_on hb hs
    replace B0 := B0.keep hs
    clear hs e7
    have e7 := B0.2 7 _ rfl
    have e0 := B0.2 0 _ rfl
    go_wp2_with fail
    refine (l1In_any _ _ _ _).mono ?_
    rintro e V2 ⟨rfl, rfl⟩
    rw [hq]
    go_wp2_with fail
    go_ret2
    exact pairI_mk HF.out hb
  have HF := Lib.hid (grossOf_yes hi hq)
  have hq2 := inB_iff.1 hq
  obtain ⟨_, _, _, _, _, hs2, _⟩ := isItem_lots x hi
  obtain ⟨q1, q2⟩ := hq2
  obtain ⟨s1, s2⟩ := hs2
  obtain ⟨s, hsc⟩ : ∃ s, x.2.2.2.2.2.2.2 = s := ⟨_, rfl⟩
  have HSC := Lib.hid hsc
  rw [hsc] at s1 s2
  clear hsc
  obtain ⟨g1, g2⟩ := grossQ_bd q1 q2 s1 s2
  have HG : Hid (grossOf x q = (-((-(q * 100)) / (100 - s)), true)) := by show _ = _; rw [HF.out, HSC.out]; rfl
  go_enter Try.func32, Try.ntmps32
  have e7 := B0.2 7 _ rfl
  go_wp2_with fail
  generalize (w.alloc (.cells #[.string x.1, .string x.2.1, .int .i64 x.2.2.1, .int .i64 x.2.2.2.1, .int .i64 x.2.2.2.2.1, .int .i64 x.2.2.2.2.2.1, .int .i64 x.2.2.2.2.2.2.1, .int .i64 x.2.2.2.2.2.2.2] 42)) = V at *
  refine (specIsItem_at x _ hok).mono ?_
  rintro e V1 ⟨rfl, hs⟩
  rw [hi]
  replace hb := below_on hb hs
  replace B0 := B0.keep hs
  clear hs e7
  have e7 := B0.2 7 _ rfl
  have e0 := B0.2 0 _ rfl
  go_wp2_with fail
  refine (l1In_any _ _ _ _).mono ?_
  rintro e V2 ⟨rfl, rfl⟩
  rw [hq]
  clear e7 e0
  have e7 := B0.2 7 _ rfl
  rw [HSC.out] at e7
  have w1 : IntKind.i64.wrap (-q * 100) = -(q * 100) := by rw [Int.neg_mul]; exact IntWalk.i64_in _ (by omega)
  go_wp2_with fail
  refine (l2Floor_all _ _ _ (by omega) (by omega) (by omega) (by omega)).mono ?_
  rintro e V3 ⟨rfl, rfl⟩
  go_wp2_with fail
  go_ret2
  exact pairI_mk HG.out hb
set_option maxRecDepth 100000 in
set_option maxHeartbeats 1000000 in
theorem specNetOf_any (x : It) (q : Int) (w : World) (hok : okIt x) : Calls Try.prog 10 #[.agg #[.string x.1, .string x.2.1, .int .i64 x.2.2.1, .int .i64 x.2.2.2.1, .int .i64 x.2.2.2.2.1, .int .i64 x.2.2.2.2.2.1, .int .i64 x.2.2.2.2.2.2.1, .int .i64 x.2.2.2.2.2.2.2], .int .i64 q] w (PairI w (netOf x q)) := by
  have hb := below_alloc w (.cells #[.string x.1, .string x.2.1, .int .i64 x.2.2.1, .int .i64 x.2.2.2.1, .int .i64 x.2.2.2.2.1, .int .i64 x.2.2.2.2.2.1, .int .i64 x.2.2.2.2.2.2.1, .int .i64 x.2.2.2.2.2.2.2] 42)
  have B0 : BoxOf (w.alloc (.cells #[.string x.1, .string x.2.1, .int .i64 x.2.2.1, .int .i64 x.2.2.2.1, .int .i64 x.2.2.2.2.1, .int .i64 x.2.2.2.2.2.1, .int .i64 x.2.2.2.2.2.2.1, .int .i64 x.2.2.2.2.2.2.2] 42)) w.heap.size [.string x.1, .string x.2.1, .int .i64 x.2.2.1, .int .i64 x.2.2.2.1, .int .i64 x.2.2.2.2.1, .int .i64 x.2.2.2.2.2.1, .int .i64 x.2.2.2.2.2.2.1, .int .i64 x.2.2.2.2.2.2.2] := boxOf_alloc w #[.string x.1, .string x.2.1, .int .i64 x.2.2.1, .int .i64 x.2.2.2.1, .int .i64 x.2.2.2.2.1, .int .i64 x.2.2.2.2.2.1, .int .i64 x.2.2.2.2.2.2.1, .int .i64 x.2.2.2.2.2.2.2] 42
  cases hi : isItem x
  · have HF : Hid (netOf x q = (0, false)) := netOf_no (by rw [hi]; rfl)
    go_enter Try.func10, Try.ntmps10
    have e7 := B0.2 7 _ rfl
    go_wp2_with fail
    generalize (w.alloc (.cells #[.string x.1, .string x.2.1, .int .i64 x.2.2.1, .int .i64 x.2.2.2.1, .int .i64 x.2.2.2.2.1, .int .i64 x.2.2.2.2.2.1, .int .i64 x.2.2.2.2.2.2.1, .int .i64 x.2.2.2.2.2.2.2] 42)) = V at *
    refine (specIsItem_at x _ hok).mono ?_
    rintro e V1 ⟨rfl, hs⟩
    rw [hi]
    replace hb := below_on hb hs
    replace B0 := B0.keep hs
    clear hs e7
    have e7 := B0.2 7 _ rfl
    have e0 := B0.2 0 _ rfl
    go_wp2_with fail
    go_ret2
    exact pairI_mk HF.out hb
  cases hq : inB q 0 2000000000
  · have HF : Hid (netOf x q = (0, false)) := netOf_no (by rw [hi, hq]; rfl)
    go_enter Try.func10, Try.ntmps10
    have e7 := B0.2 7 _ rfl
    go_wp2_with fail
    generalize (w.alloc (.cells #[.string x.1, .string x.2.1, .int .i64 x.2.2.1, .int .i64 x.2.2.2.1, .int .i64 x.2.2.2.2.1, .int .i64 x.2.2.2.2.2.1, .int .i64 x.2.2.2.2.2.2.1, .int .i64 x.2.2.2.2.2.2.2] 42)) = V at *
    refine (specIsItem_at x _ hok).mono ?_
    rintro e V1 ⟨rfl, hs⟩
    rw [hi]
    replace hb := below_on hb hs
    replace B0 := B0.keep hs
    clear hs e7
    have e7 := B0.2 7 _ rfl
    have e0 := B0.2 0 _ rfl
    go_wp2_with fail
    refine (l1In_any _ _ _ _).mono ?_
    rintro e V2 ⟨rfl, rfl⟩
    rw [hq]
    go_wp2_with fail
    go_ret2
    exact pairI_mk HF.out hb
  have HF := Lib.hid (netOf_yes hi hq)
  have hq2 := inB_iff.1 hq
  obtain ⟨_, _, _, _, _, hs2, _⟩ := isItem_lots x hi
  obtain ⟨q1, q2⟩ := hq2
  obtain ⟨s1, s2⟩ := hs2
  obtain ⟨s, hsc⟩ : ∃ s, x.2.2.2.2.2.2.2 = s := ⟨_, rfl⟩
  have HSC := Lib.hid hsc
  rw [hsc] at s1 s2
  clear hsc
  have m1 : 0 ≤ q * (100 - s) := Int.mul_nonneg q1 (by omega)
  have m2 : q * (100 - s) ≤ 2000000000 * 100 := Int.mul_le_mul q2 (by omega) (by omega) (by omega)
  have w1 : IntKind.i64.wrap (q * (100 - s)) = q * (100 - s) := IntWalk.i64_in _ (by omega)
  have t1 : (q * (100 - s)).tdiv 100 = q * (100 - s) / 100 := Int.tdiv_eq_ediv_of_nonneg m1
  have HG : Hid (netOf x q = (q * (100 - s) / 100, true)) := by show _ = _; rw [HF.out, HSC.out]
  go_enter Try.func10, Try.ntmps10
  have e7 := B0.2 7 _ rfl
  go_wp2_with fail
  generalize (w.alloc (.cells #[.string x.1, .string x.2.1, .int .i64 x.2.2.1, .int .i64 x.2.2.2.1, .int .i64 x.2.2.2.2.1, .int .i64 x.2.2.2.2.2.1, .int .i64 x.2.2.2.2.2.2.1, .int .i64 x.2.2.2.2.2.2.2] 42)) = V at *
  refine (specIsItem_at x _ hok).mono ?_
  rintro e V1 ⟨rfl, hs⟩
  rw [hi]
  replace hb := below_on hb hs
  replace B0 := B0.keep hs
  clear hs e7
  have e7 := B0.2 7 _ rfl
  have e0 := B0.2 0 _ rfl
  go_wp2_with fail
  refine (l1In_any _ _ _ _).mono ?_
  rintro e V2 ⟨rfl, rfl⟩
  rw [hq]
  clear e7 e0
  have e7 := B0.2 7 _ rfl
  rw [HSC.out] at e7
  go_wp2_with fail
  go_ret2
  exact pairI_mk HG.out hb
set_option maxRecDepth 100000 in
set_option maxHeartbeats 1000000 in
theorem implGrossOf_any (x : It) (q : Int) (w : World) (hok : okIt x) : Calls Try.prog 26 #[.agg #[.string x.1, .string x.2.1, .int .i64 x.2.2.1, .int .i64 x.2.2.2.1, .int .i64 x.2.2.2.2.1, .int .i64 x.2.2.2.2.2.1, .int .i64 x.2.2.2.2.2.2.1, .int .i64 x.2.2.2.2.2.2.2], .int .i64 q] w (PairI w (grossOf x q)) := by
  have hb := below_alloc w (.cells #[.string x.1, .string x.2.1, .int .i64 x.2.2.1, .int .i64 x.2.2.2.1, .int .i64 x.2.2.2.2.1, .int .i64 x.2.2.2.2.2.1, .int .i64 x.2.2.2.2.2.2.1, .int .i64 x.2.2.2.2.2.2.2] 42)
  have B0 : BoxOf (w.alloc (.cells #[.string x.1, .string x.2.1, .int .i64 x.2.2.1, .int .i64 x.2.2.2.1, .int .i64 x.2.2.2.2.1, .int .i64 x.2.2.2.2.2.1, .int .i64 x.2.2.2.2.2.2.1, .int .i64 x.2.2.2.2.2.2.2] 42)) w.heap.size [.string x.1, .string x.2.1, .int .i64 x.2.2.1, .int .i64 x.2.2.2.1, .int .i64 x.2.2.2.2.1, .int .i64 x.2.2.2.2.2.1, .int .i64 x.2.2.2.2.2.2.1, .int .i64 x.2.2.2.2.2.2.2] := boxOf_alloc w #[.string x.1, .string x.2.1, .int .i64 x.2.2.1, .int .i64 x.2.2.2.1, .int .i64 x.2.2.2.2.1, .int .i64 x.2.2.2.2.2.1, .int .i64 x.2.2.2.2.2.2.1, .int .i64 x.2.2.2.2.2.2.2] 42
  cases hi : isItem x
  · have HF : Hid (grossOf x q = (0, false)) := grossOf_no (by rw [hi]; rfl)
    go_enter Try.func26, Try.ntmps26
    have e7 := B0.2 7 _ rfl
    go_wp2_with fail
    generalize (w.alloc (.cells #[.string x.1, .string x.2.1, .int .i64 x.2.2.1, .int .i64 x.2.2.2.1, .int .i64 x.2.2.2.2.1, .int .i64 x.2.2.2.2.2.1, .int .i64 x.2.2.2.2.2.2.1, .int .i64 x.2.2.2.2.2.2.2] 42)) = V at *
    refine (implIsItem_at x _ hok).mono ?_
    rintro e V1 ⟨rfl, hs⟩
    rw [hi]
    replace hb := below_on hb hs
    replace B0 := B0.keep hs
    clear hs e7
    have e7 := B0.2 7 _ rfl
    have e0 := B0.2 0 _ rfl
    go_wp2_with fail
    go_ret2
    exact pairI_mk HF.out hb
  cases hq : inB q 0 1000000000
  · have HF : Hid (grossOf x q = (0, false)) := grossOf_no (by rw [hi, hq]; rfl)
    go_enter Try.func26, Try.ntmps26
    have e7 := B0.2 7 _ rfl
    go_wp2_with fail
    generalize (w.alloc (.cells #[.string x.1, .string x.2.1, .int .i64 x.2.2.1, .int .i64 x.2.2.2.1, .int .i64 x.2.2.2.2.1, .int .i64 x.2.2.2.2.2.1, .int .i64 x.2.2.2.2.2.2.1, .int .i64 x.2.2.2.2.2.2.2] 42)) = V at *
    refine (implIsItem_at x _ hok).mono ?_
    rintro e V1 ⟨rfl, hs⟩
    rw [hi]
    replace hb := below_on hb hs
    replace B0 := B0.keep hs
    clear hs e7
    have e7 := B0.2 7 _ rfl
    have e0 := B0.2 0 _ rfl
    go_wp2_with fail
    refine (in_any _ _ _ _).mono ?_
    rintro e V2 ⟨rfl, rfl⟩
    rw [hq]
    go_wp2_with fail
    go_ret2
    exact pairI_mk HF.out hb
  have HF := Lib.hid (grossOf_yes hi hq)
  have hq2 := inB_iff.1 hq
  obtain ⟨_, _, _, _, _, hs2, _⟩ := isItem_lots x hi
  obtain ⟨q1, q2⟩ := hq2
  obtain ⟨s1, s2⟩ := hs2
  obtain ⟨s, hsc⟩ : ∃ s, x.2.2.2.2.2.2.2 = s := ⟨_, rfl⟩
  have HSC := Lib.hid hsc
  rw [hsc] at s1 s2
  clear hsc
  obtain ⟨g1, g2⟩ := grossQ_bd q1 q2 s1 s2
  have HG : Hid (grossOf x q = (-((-(q * 100)) / (100 - s)), true)) := by show _ = _; rw [HF.out, HSC.out]; rfl
  go_enter Try.func26, Try.ntmps26
  have e7 := B0.2 7 _ rfl
  go_wp2_with fail
  generalize (w.alloc (.cells #[.string x.1, .string x.2.1, .int .i64 x.2.2.1, .int .i64 x.2.2.2.1, .int .i64 x.2.2.2.2.1, .int .i64 x.2.2.2.2.2.1, .int .i64 x.2.2.2.2.2.2.1, .int .i64 x.2.2.2.2.2.2.2] 42)) = V at *
  refine (implIsItem_at x _ hok).mono ?_
  rintro e V1 ⟨rfl, hs⟩
  rw [hi]
  replace hb := below_on hb hs
  replace B0 := B0.keep hs
  clear hs e7
  have e7 := B0.2 7 _ rfl
  have e0 := B0.2 0 _ rfl
  go_wp2_with fail
  refine (in_any _ _ _ _).mono ?_
  rintro e V2 ⟨rfl, rfl⟩
  rw [hq]
  clear e7 e0
  have e7 := B0.2 7 _ rfl
  rw [HSC.out] at e7
  go_wp2_with fail
  refine (ceilOf_all _ _ _ (by omega) (by omega) (by omega) (by omega) (by omega) (by omega)).mono ?_
  rintro e V3 ⟨rfl, rfl⟩
  go_wp2_with fail
  go_ret2
  exact pairI_mk HG.out hb
end Go.Proofs.Ytpbibkjcjgggdaa
