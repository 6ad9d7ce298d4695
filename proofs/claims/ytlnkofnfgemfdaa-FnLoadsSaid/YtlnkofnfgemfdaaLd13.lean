/- Part 13 of the texts of this claim: The walk of RoutingTime (the reference's), and the loads' sum (plain); slices.SortFunc at rows of loads: the kit's structure laid at this program (printed by wip/laygen.py; numbers of round d1's main seat); The program's order of loads, and its sort of rows of them. -/
import Derived.Test.YtlnkofnfgemfdaaLd12
import Derived.Test.YtlnkofnfgemfdaaLd1
import Derived.Shelf.SlLaysF0
import Derived.Shelf.SlSortCmp.NoneTotal
/- The walk of RoutingTime (the reference's), and the loads' sum (plain). -/
namespace Go.Proofs.Ytlnkofnfgemfdaa
open Go.RowKit
def timeTo (x : Rt) (n : Int) (j : Nat) : Int := ((x.2.take j).map fun y => (stepTime y n).1).sum
def routingTime (x : Rt) (n : Int) : Int × Bool := if (isRouting x && inB n 1 100000) = true then (timeTo x n x.2.length, true) else (0, false)
theorem routingTime_no {x : Rt} {n : Int} (h : (isRouting x && inB n 1 100000) = false) : routingTime x n = (0, false) := by unfold routingTime; rw [if_neg (by rw [h]; decide)]
theorem routingTime_yes {x : Rt} {n : Int} (h1 : isRouting x = true) (h2 : inB n 1 100000 = true) : routingTime x n = (timeTo x n x.2.length, true) := by unfold routingTime; rw [if_pos (by rw [h1, h2]; rfl)]
theorem timeTo_succ (x : Rt) (n : Int) (j : Nat) (h : j < x.2.length) : timeTo x n (j + 1) = timeTo x n j + (stepTime x.2[j] n).1 := by
  unfold timeTo
  rw [List.take_add_one, List.getElem?_eq_getElem h, Option.toList_some, List.map_append, List.sum_append]
  simp only [List.map_cons, List.map_nil, List.sum_cons, List.sum_nil]; omega
theorem timeTo_bd (x : Rt) (n : Int) (j : Nat) : 0 ≤ timeTo x n j ∧ timeTo x n j ≤ 100001000 * j := by
  induction j with
  | zero => simp [timeTo]
  | succ j ih =>
    by_cases h : j < x.2.length
    · rw [timeTo_succ x n j h]
      have := stepTime_bd x.2[j] n
      omega
    · have e : timeTo x n (j + 1) = timeTo x n j := by unfold timeTo; rw [List.take_of_length_le (by omega), List.take_of_length_le (by omega)]
      rw [e]; omega
theorem routingTime_bd (x : Rt) (n : Int) : 0 ≤ (routingTime x n).1 ∧ (routingTime x n).1 ≤ 600006000 := by
  unfold routingTime
  split
  · next h =>
    simp only [Bool.and_eq_true] at h
    have h6 := (isRouting_parts h.1).2
    have := timeTo_bd x n x.2.length
    simp only
    omega
  · simp
set_option maxRecDepth 100000 in
set_option maxHeartbeats 2000000 in
theorem specRoutingTime_any (x : Rt) (B : Option Addr) (m c : Nat) (n : Int) (w : World) (hl : StepsIn w B m x.2) (hok : okRt x) : Calls Try.prog 44 #[.agg #[.string x.1, .slice B m c], .int .i64 n] w (PairT w (routingTime x n)) := by
  have hb := below_alloc w (.cells #[.string x.1, .slice B m c] 89)
  have B0 : BoxOf (w.alloc (.cells #[.string x.1, .slice B m c] 89)) w.heap.size [.string x.1, .slice B m c] := boxOf_alloc w #[.string x.1, .slice B m c] 89
  have hm := hl.1
  subst hm
  obtain ⟨b0, b1, bl⟩ := B0.two
  go_enter Try.func44, Try.ntmps44
  go_wp2_with fail
  generalize (w.alloc (.cells #[.string x.1, .slice B x.2.length c] 89)) = V at *
  refine (specIsRouting_any x B _ _ _ (hl.keep hb) hok).mono ?_
  rintro e w1 ⟨rfl, hs⟩
  replace hb := below_on hb hs
  replace B0 := B0.keep hs
  clear hs b0 b1 bl
  cases g1 : isRouting x
  · have HF := Lib.hid (routingTime_no (n := n) (x := x) (by rw [g1]; rfl))
    go_wp2_with fail
    go_ret2
    exact pairT_mk HF.out hb
  cases g2 : inB n 1 100000
  · have HF := Lib.hid (routingTime_no (x := x) (n := n) (by rw [g1, g2]; rfl))
    go_wp2_with (go_at_call 73; refine (l1In_any _ _ _ _).mono ?_; rintro e w' ⟨rfl, rfl⟩)
    go_ret2
    exact pairT_mk HF.out hb
  have HF := Lib.hid (routingTime_yes g1 g2)
  have h6 := (isRouting_parts g1).2
  have HOK := Lib.hid hok.2
  go_wp2_with (go_at_call 73; refine (l1In_any _ _ _ _).mono ?_; rintro e w' ⟨rfl, rfl⟩)
  go_loopw [6, 7] (fun s i wr => ∃ j : Nat, j ≤ x.2.length ∧ i = .int .i64 j ∧ s = .int .i64 (timeTo x n j) ∧ BoxOf wr w.heap.size [.string x.1, .slice B x.2.length c] ∧ Below w.heap.size w wr) (fun _ i _ => x.2.length - (intOf i).toNat)
  case atStart => exact ⟨0, by omega, rfl, rfl, B0, hb⟩
  case round =>
    clear B0 hb
    obtain ⟨j, hj, rfl, rfl, B0, hb⟩ := hrel
    obtain ⟨b0, b1, bl⟩ := B0.two
    by_cases hlt : j < x.2.length
    case neg =>
      obtain rfl : j = x.2.length := by omega
      go_wp2_with fail
      go_ret2
      exact pairT_mk HF.out hb
    obtain ⟨bs, os, hae, hbs, s1, s2, s3⟩ := step_at (hl.keep hb) hlt
    subst hae
    have j1 : (j : Int) < (x.2.length : Int) := by omega
    have HT := Lib.hid (timeTo_succ x n j hlt)
    have hsz := HOK.out _ (List.getElem_mem hlt)
    have t1 := timeTo_bd x n j
    have t2 := stepTime_bd x.2[j] n
    go_wp2_with fail
    refine (specStepTime_any x.2[j] n _ hsz).mono ?_
    rintro e w2 ⟨rfl, hs⟩
    clear b0 b1 bl s1 s2 s3 hbs
    replace hb := below_on hb hs
    replace B0 := B0.keep hs
    generalize stepTime x.2[j] n = tv at *
    have hwr : IntKind.i64.wrap (timeTo x n j + tv.1) = timeTo x n j + tv.1 := IntWalk.i64_in _ (by omega)
    go_wp2_with fail
    go_roundw
    case rel => exact ⟨j + 1, by omega, by go_num, by rw [HT.out], B0, hb⟩
    case measure => simp [intOf]; omega
/-! The loads' sum. -/
def sumM (S : List Ld) : Int := (S.map fun x => x.2.2).sum
theorem sumM_add (S : List Ld) (c : ByteArray) (d q : Int) : sumM (addL S c d q) = sumM S + q := by
  induction S with
  | nil => simp [addL, sumM]
  | cons x t ih =>
    unfold addL
    split
    · unfold sumM at *; simp only [List.map_cons, List.sum_cons, ih]; omega
    · split
      · unfold sumM; simp only [List.map_cons, List.sum_cons]; omega
      · unfold sumM; simp only [List.map_cons, List.sum_cons]; omega
theorem sumM_steps (o : Pl) (st : List Sp) (s : List Ld) : sumM (st.foldl (loadsOne o) s) = sumM s + (st.map fun y => (stepTime y o.2.1).1).sum := by
  induction st generalizing s with
  | nil => simp
  | cons y st ih =>
    rw [List.foldl_cons, ih]
    unfold loadsOne
    rw [sumM_add]
    simp only [List.map_cons, List.sum_cons]; omega
def timeOf (r : List Rt) (o : Pl) : Int := if 0 ≤ findRt r o.1 then (routingTime (r.getD (findRt r o.1).toNat rtNone) o.2.1).1 else 0
def sumT (r : List Rt) (l : List Pl) (k : Nat) : Int := ((l.take k).map (timeOf r)).sum
theorem sumT_succ (r : List Rt) (l : List Pl) (k : Nat) (h : k < l.length) : sumT r l (k + 1) = sumT r l k + timeOf r l[k] := by
  unfold sumT
  rw [List.take_add_one, List.getElem?_eq_getElem h, Option.toList_some, List.map_append, List.sum_append]
  simp only [List.map_cons, List.map_nil, List.sum_cons, List.sum_nil]; omega
theorem timeOf_bd (r : List Rt) (o : Pl) : 0 ≤ timeOf r o ∧ timeOf r o ≤ 600006000 := by
  unfold timeOf
  split
  · exact routingTime_bd _ _
  · simp
theorem sumT_bd (r : List Rt) (l : List Pl) (k : Nat) : 0 ≤ sumT r l k ∧ sumT r l k ≤ 600006000 * k := by
  induction k with
  | zero => simp [sumT]
  | succ k ih =>
    by_cases h : k < l.length
    · rw [sumT_succ r l k h]
      have := timeOf_bd r l[k]
      omega
    · have e : sumT r l (k + 1) = sumT r l k := by unfold sumT; rw [List.take_of_length_le (by omega), List.take_of_length_le (by omega)]
      rw [e]; omega
theorem loads_sum {r : List Rt} {l : List Pl} (hr : areRoutings r = true) (hl : l.all okPl1 = true) (k : Nat) : sumM (loadsTo r l k) = sumT r l k := by
  induction k with
  | zero => simp [loadsTo, sumM, sumT]
  | succ k ih =>
    by_cases hk : k < l.length
    · rw [loadsTo_succ r l k hk, sumT_succ r l k hk]
      unfold loadsPl
      rw [sumM_steps, ih]
      congr 1
      unfold stepsOf timeOf
      by_cases hf : 0 ≤ findRt r l[k].1
      · rw [if_pos hf, if_pos hf]
        have hb := findRt_bd r l[k].1
        have hq : (findRt r l[k].1).toNat < r.length := by omega
        rw [rt_getD _ _ hq]
        have h1 := (areRoutings_parts hr).2 _ hq
        have h2 := List.all_eq_true.1 hl _ (List.getElem_mem hk)
        unfold okPl1 at h2
        simp only [Bool.and_eq_true] at h2
        rw [routingTime_yes h1 h2.1]
        unfold timeTo
        rw [List.take_length]
      · rw [if_neg hf, if_neg hf]; rfl
    · have e : sumT r l (k + 1) = sumT r l k := by unfold sumT; rw [List.take_of_length_le (by omega), List.take_of_length_le (by omega)]
      rw [e, ← ih, loadsTo_over r l (k + 1) (by omega), loadsTo_over r l k (by omega)]
def prefM (S : List Ld) (k : Nat) : Int := sumM (S.take k)
theorem prefM_succ (S : List Ld) (k : Nat) (h : k < S.length) : prefM S (k + 1) = prefM S k + S[k].2.2 := by
  unfold prefM sumM
  rw [List.take_add_one, List.getElem?_eq_getElem h, Option.toList_some, List.map_append, List.sum_append]
  simp only [List.map_cons, List.map_nil, List.sum_cons, List.sum_nil]; omega
theorem prefM_all (S : List Ld) : prefM S S.length = sumM S := by unfold prefM; rw [List.take_length]
theorem prefM_bd {S : List Ld} {B : Int} (hB : 0 ≤ B) (h : ∀ x ∈ S, 0 ≤ x.2.2 ∧ x.2.2 ≤ B) (k : Nat) : 0 ≤ prefM S k ∧ prefM S k ≤ B * k := by
  induction k with
  | zero => simp [prefM, sumM]
  | succ k ih =>
    by_cases hk : k < S.length
    · rw [prefM_succ S k hk]
      have := h _ (List.getElem_mem hk)
      have e : B * ((k + 1 : Nat) : Int) = B * k + B := by rw [Int.natCast_add, Int.mul_add]; simp
      omega
    · have e : prefM S (k + 1) = prefM S k := by unfold prefM; rw [List.take_of_length_le (by omega), List.take_of_length_le (by omega)]
      have e2 : B * ((k + 1 : Nat) : Int) = B * k + B := by rw [Int.natCast_add, Int.mul_add]; simp
      rw [e]; omega
end Go.Proofs.Ytlnkofnfgemfdaa
/- slices.SortFunc at rows of loads: the kit's structure laid at this program (printed by wip/laygen.py; numbers of round d1's main seat). -/
namespace Go.Proofs.Ytlnkofnfgemfdaa
open Go.Shelf
def sortLd_ren : Go.Shelf.Ren := ⟨fun | 6 => 99 | 15 => 146 | 14 => 145 | 28 => 175 | 29 => 176 | 20 => 167 | 21 => 168 | 22 => 169 | 23 => 170 | 24 => 171 | 25 => 172 | 26 => 173 | 27 => 174 | 46 => 182 | 47 => 183 | 48 => 184 | 49 => 185 | 50 => 186 | 57 => 191 | n => n, fun | 22 => 70 | 24 => 91 | 25 => 144 | 3 => 3 | 39 => 187 | 0 => 0 | 53 => 217 | 55 => 219 | 4 => 4 | 46 => 211 | 45 => 210 | 50 => 39 | 5 => 5 | 9 => 9 | 66 => 223 | 70 => 227 | 76 => 233 | 77 => 234 | n => n, fun | n => n⟩
theorem sortLd : Go.Proofs.SlLaysF0.n6 Try.prog sortLd_ren := {
  mixed := by kernel_rfl
  f6 := ⟨Try.f99.name, by decide, Try.func99.trans (congrArg some (by kernel_rfl))⟩
  f14 := ⟨Try.f145.name, by decide, Try.func145.trans (congrArg some (by kernel_rfl))⟩
  f15 := Try.func146.trans (congrArg some (by kernel_rfl))
  f20 := ⟨Try.f167.name, by decide, Try.func167.trans (congrArg some (by kernel_rfl))⟩
  f21 := ⟨Try.f168.name, by decide, Try.func168.trans (congrArg some (by kernel_rfl))⟩
  f22 := ⟨Try.f169.name, by decide, Try.func169.trans (congrArg some (by kernel_rfl))⟩
  f23 := ⟨Try.f170.name, by decide, Try.func170.trans (congrArg some (by kernel_rfl))⟩
  f24 := ⟨Try.f171.name, by decide, Try.func171.trans (congrArg some (by kernel_rfl))⟩
  f25 := ⟨Try.f172.name, by decide, Try.func172.trans (congrArg some (by kernel_rfl))⟩
  f26 := ⟨Try.f173.name, by decide, Try.func173.trans (congrArg some (by kernel_rfl))⟩
  f27 := ⟨Try.f174.name, by decide, Try.func174.trans (congrArg some (by kernel_rfl))⟩
  f28 := Try.func175.trans (congrArg some (by kernel_rfl))
  f29 := Try.func176.trans (congrArg some (by kernel_rfl))
  f46 := ⟨Try.f182.name, by decide, Try.func182.trans (congrArg some (by kernel_rfl))⟩
  f47 := Try.func183.trans (congrArg some (by kernel_rfl))
  f48 := Try.func184.trans (congrArg some (by kernel_rfl))
  f49 := ⟨Try.f185.name, by decide, Try.func185.trans (congrArg some (by kernel_rfl))⟩
  f50 := ⟨Try.f186.name, by decide, Try.func186.trans (congrArg some (by kernel_rfl))⟩
  f57 := ⟨Try.f191.name, by decide, Try.func191.trans (congrArg some (by kernel_rfl))⟩
  t0 := Try.underlying0
  a0 := Try.isAgg0
  z0 := Try.sizeOf0
  v0 := Try.zeroValue0
  t3 := Try.underlying3
  a3 := Try.isAgg3
  z3 := Try.sizeOf3
  v3 := Try.zeroValue3
  t4 := Try.underlying4
  a4 := Try.isAgg4
  z4 := Try.sizeOf4
  v4 := Try.zeroValue4
  t5 := Try.underlying5
  a5 := Try.isAgg5
  z5 := Try.sizeOf5
  v5 := Try.zeroValue5
  t9 := Try.underlying9
  a9 := Try.isAgg9
  z9 := Try.sizeOf9
  v9 := Try.zeroValue9
  t22 := Try.underlying70
  a22 := Try.isAgg70
  z22 := Try.sizeOf70
  v22 := Try.zeroValue70
  t25 := Try.underlying144
  a25 := Try.isAgg144
  z25 := Try.sizeOf144
  v25 := Try.zeroValue144
  t39 := Try.underlying187
  a39 := Try.isAgg187
  z39 := Try.sizeOf187
  v39 := Try.zeroValue187
  t45 := Try.underlying210
  a45 := Try.isAgg210
  z45 := Try.sizeOf210
  v45 := Try.zeroValue210
  t46 := Try.underlying211
  a46 := Try.isAgg211
  z46 := Try.sizeOf211
  v46 := Try.zeroValue211
  t50 := Try.underlying39
  a50 := Try.isAgg39
  z50 := Try.sizeOf39
  v50 := Try.zeroValue39
  t53 := Try.underlying217
  a53 := Try.isAgg217
  z53 := Try.sizeOf217
  v53 := Try.zeroValue217
  t55 := Try.underlying219
  a55 := Try.isAgg219
  z55 := Try.sizeOf219
  v55 := Try.zeroValue219
  t66 := Try.underlying223
  a66 := Try.isAgg223
  z66 := Try.sizeOf223
  v66 := Try.zeroValue223
  t70 := Try.underlying227
  a70 := Try.isAgg227
  z70 := Try.sizeOf227
  v70 := Try.zeroValue227
  t76 := Try.underlying233
  a76 := Try.isAgg233
  z76 := Try.sizeOf233
  v76 := Try.zeroValue233
  t77 := Try.underlying234
  a77 := Try.isAgg234
  z77 := Try.sizeOf234
  v77 := Try.zeroValue234 }

end Go.Proofs.Ytlnkofnfgemfdaa
/- The program's order of loads, and its sort of rows of them. -/
namespace Go.Proofs.Ytlnkofnfgemfdaa
open Go.RowKit Go.Shelf Go.Sort
def cmpL (x y : Ld) : Int := if Op.bytesLess x.1.toList y.1.toList = true then -1 else if (x.1.toList == y.1.toList) = true then x.2.1 - y.2.1 else 1
theorem cmpL_lt (x y : Ld) : decide (cmpL x y < 0) = ltK x.1 x.2.1 y.1 y.2.1 := by
  unfold cmpL ltK
  cases h1 : Op.bytesLess x.1.toList y.1.toList
  · cases h2 : (x.1.toList == y.1.toList)
    · simp
    · simp
      by_cases h3 : x.2.1 < y.2.1
      · simp [h3]; omega
      · simp [h3]; omega
  · simp
set_option maxHeartbeats 1000000 in
theorem implCmp_any (x y : Ld) (W : World) (hx : 0 ≤ x.2.1 ∧ x.2.1 ≤ 999) (hy : 0 ≤ y.2.1 ∧ y.2.1 ≤ 999) :
    Calls Try.prog 100 #[.agg #[.string x.1, .int .i64 x.2.1, .int .i64 x.2.2], .agg #[.string y.1, .int .i64 y.2.1, .int .i64 y.2.2]] W fun e w' => e = .returned (.int .i64 (cmpL x y)) ∧ ∃ q os', w' = grow (W.drewN q) os' := by
  have hwr : IntKind.i64.wrap (x.2.1 - y.2.1) = x.2.1 - y.2.1 := IntWalk.i64_in _ (by omega)
  cases h1 : Op.bytesLess x.1.toList y.1.toList
  · cases h2 : (x.1.toList == y.1.toList)
    · go_enter Try.func100, Try.ntmps100
      go_wp2
      go_ret
      refine ⟨by simp [cmpL, h1, h2], 0, _, by rw [alloc_eq_grow, alloc_eq_grow, grow_grow]; rfl⟩
    · go_enter Try.func100, Try.ntmps100
      go_wp2
      go_ret
      refine ⟨by simp [cmpL, h1, h2], 0, _, by rw [alloc_eq_grow, alloc_eq_grow, grow_grow]; rfl⟩
  · go_enter Try.func100, Try.ntmps100
    go_wp2
    go_ret
    refine ⟨by simp [cmpL, h1], 0, _, by rw [alloc_eq_grow, alloc_eq_grow, grow_grow]; rfl⟩
end Go.Proofs.Ytlnkofnfgemfdaa
