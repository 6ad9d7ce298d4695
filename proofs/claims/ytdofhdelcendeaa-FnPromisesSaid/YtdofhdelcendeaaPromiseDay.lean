/- The walks of PromiseDay. -/
import Derived.Test.YtdofhdelcendeaaOpen
namespace Go.Proofs.Ytdofhdelcendeaa
open Go.RowKit
theorem promiseDay_no {sup prom : List Fl} {q d : Int} (h : (isKept sup prom && (inB q 1 1000000000 && inB d 0 999)) = false) : promiseDay sup prom q d = (0, false) := by simp [promiseDay, h]
theorem promiseDay_yes {sup prom : List Fl} {q : Int} {j : Nat} (h1 : isKept sup prom = true) (h2 : inB q 1 1000000000 = true) (h3 : inB (j : Int) 0 999 = true) : promiseDay sup prom q j = firstOpen sup prom q (1000 - j) j := by
  unfold promiseDay; rw [h1, h2, h3]; rfl
set_option maxRecDepth 100000 in
set_option maxHeartbeats 1000000 in
theorem specPromiseDay_any (A B : Option Addr) (n m c c2 : Nat) (sup prom : List Fl) (q d : Int) (w : World) (ha : FlowsIn w A n sup) (hm : FlowsIn w B m prom) :
    Calls Try.prog 56 #[.slice A n c, .slice B m c2, .int .i64 q, .int .i64 d] w fun e w' => e = .returned (pairV (promiseDay sup prom q d)) ∧ Drew w w' := by
  obtain rfl := ha.1
  obtain rfl := hm.1
  have hb : Drew w w := Drew.refl _
  go_enter Try.func56, Try.ntmps56
  go_wp2_with fail
  refine (specIsKept_any _ _ _ _ _ _ sup prom _ (ha.keep (hb.below _)) (hm.keep (hb.below _))).mono ?_
  rintro e u1 ⟨rfl, hs⟩
  replace hb := hb.trans hs
  clear hs
  cases g1 : isKept sup prom
  · go_wp2_with fail
    go_ret2
    exact ⟨ret_pair (p := (0, false)) (promiseDay_no (by simp [g1])).symm, hb⟩
  go_wp2_with fail
  refine (l1In_any _ _ _ _).mono ?_
  rintro e v ⟨rfl, rfl⟩
  cases g2 : inB q 1 1000000000
  · go_wp2_with fail
    go_ret2
    exact ⟨ret_pair (p := (0, false)) (promiseDay_no (by simp [g2])).symm, hb⟩
  go_wp2_with fail
  refine (l1In_any _ _ _ _).mono ?_
  rintro e v ⟨rfl, rfl⟩
  cases g3 : inB d 0 999
  · go_wp2_with fail
    go_ret2
    exact ⟨ret_pair (p := (0, false)) (promiseDay_no (by simp [g3])).symm, hb⟩
  obtain ⟨d0, d1⟩ := inB_iff.1 g3
  obtain ⟨j0, rfl⟩ := Int.eq_ofNat_of_zero_le d0
  go_wp2_with fail
  go_loopw [10] (fun i wr => ∃ j : Nat, j ≤ 1000 ∧ i = .int .i64 j ∧ Hid (firstOpen sup prom q (1000 - j0) j0 = firstOpen sup prom q (1000 - j) j) ∧ Drew w wr) (fun i _ => 1000 - (intOf i).toNat)
  case atStart => exact ⟨j0, by omega, rfl, rfl, hb⟩
  case round =>
    obtain ⟨j, hj, rfl, HF, HR⟩ := hrel
    clear hb
    by_cases hlt : j ≤ 999
    · have hstep : firstOpen sup prom q (1000 - j) j = if q ≤ openOn sup prom j then ((j : Int), true) else firstOpen sup prom q (1000 - (j + 1)) ((j : Int) + 1) := by
        rw [show 1000 - j = (1000 - (j + 1)) + 1 by omega, firstOpen]
      have HS := Lib.hid hstep
      clear hstep
      by_cases hq : q ≤ openOn sup prom j
      · go_wp2_with fail
        refine (specOpenOn_any _ _ _ _ _ _ sup prom _ _ (ha.keep (HR.below _)) (hm.keep (HR.below _))).mono ?_
        rintro e v ⟨rfl, hs⟩
        go_wp2_with fail
        go_ret2
        exact ⟨ret_pair (p := (_, true)) (by rw [promiseDay_yes g1 g2 g3, HF.out, HS.out, if_pos (by omega)]), HR.trans hs⟩
      · go_wp2_with fail
        refine (specOpenOn_any _ _ _ _ _ _ sup prom _ _ (ha.keep (HR.below _)) (hm.keep (HR.below _))).mono ?_
        rintro e v ⟨rfl, hs⟩
        go_wp2_with fail
        go_roundw
        case rel => exact ⟨j + 1, by omega, by go_num, by show _ = _; rw [HF.out, HS.out, if_neg (by omega)]; rfl, HR.trans hs⟩
        case measure => simp [intOf]; omega
    · obtain rfl : j = 1000 := by omega
      go_wp2_with fail
      go_ret2
      exact ⟨ret_pair (p := (0, false)) (by rw [promiseDay_yes g1 g2 g3, HF.out]; rfl), HR⟩
set_option maxRecDepth 100000 in
set_option maxHeartbeats 1000000 in
theorem implPromiseDay_any (A B : Option Addr) (n m c c2 : Nat) (sup prom : List Fl) (q d : Int) (w : World) (ha : FlowsIn w A n sup) (hm : FlowsIn w B m prom) :
    Calls Try.prog 55 #[.slice A n c, .slice B m c2, .int .i64 q, .int .i64 d] w fun e w' => e = .returned (pairV (promiseDay sup prom q d)) ∧ Below w.heap.size w w' := by
  obtain rfl := ha.1
  obtain rfl := hm.1
  have hb : Below w.heap.size w w := Below.refl _ _
  go_enter Try.func55, Try.ntmps55
  go_wp2_with fail
  refine (implIsKept_any _ _ _ _ _ _ sup prom _ (ha.keep hb) (hm.keep hb)).mono ?_
  rintro e u1 ⟨rfl, hs⟩
  replace hb := below_on hb hs
  clear hs
  cases g1 : isKept sup prom
  · go_wp2_with fail
    go_ret2
    exact ⟨ret_pair (p := (0, false)) (promiseDay_no (by simp [g1])).symm, hb⟩
  go_wp2_with fail
  refine (in_any _ _ _ _).mono ?_
  rintro e v ⟨rfl, rfl⟩
  cases g2 : inB q 1 1000000000
  · go_wp2_with fail
    go_ret2
    exact ⟨ret_pair (p := (0, false)) (promiseDay_no (by simp [g2])).symm, hb⟩
  go_wp2_with fail
  refine (in_any _ _ _ _).mono ?_
  rintro e v ⟨rfl, rfl⟩
  cases g3 : inB d 0 999
  · go_wp2_with fail
    go_ret2
    exact ⟨ret_pair (p := (0, false)) (promiseDay_no (by simp [g3])).symm, hb⟩
  obtain ⟨d0, d1⟩ := inB_iff.1 g3
  obtain ⟨j0, rfl⟩ := Int.eq_ofNat_of_zero_le d0
  go_wp2_with fail
  go_loopw [10] (fun i wr => ∃ j : Nat, j ≤ 1000 ∧ i = .int .i64 j ∧ Hid (firstOpen sup prom q (1000 - j0) j0 = firstOpen sup prom q (1000 - j) j) ∧ Below w.heap.size w wr) (fun i _ => 1000 - (intOf i).toNat)
  case atStart => exact ⟨j0, by omega, rfl, rfl, hb⟩
  case round =>
    obtain ⟨j, hj, rfl, HF, HR⟩ := hrel
    clear hb
    by_cases hlt : j ≤ 999
    · have hstep : firstOpen sup prom q (1000 - j) j = if q ≤ openOn sup prom j then ((j : Int), true) else firstOpen sup prom q (1000 - (j + 1)) ((j : Int) + 1) := by
        rw [show 1000 - j = (1000 - (j + 1)) + 1 by omega, firstOpen]
      have HS := Lib.hid hstep
      clear hstep
      by_cases hq : q ≤ openOn sup prom j
      · go_wp2_with fail
        refine (implOpenOn_any _ _ _ _ _ _ sup prom _ _ (ha.keep HR) (hm.keep HR)).mono ?_
        rintro e v ⟨rfl, hs⟩
        go_wp2_with fail
        go_ret2
        exact ⟨ret_pair (p := (_, true)) (by rw [promiseDay_yes g1 g2 g3, HF.out, HS.out, if_pos (by omega)]), below_on HR hs⟩
      · go_wp2_with fail
        refine (implOpenOn_any _ _ _ _ _ _ sup prom _ _ (ha.keep HR) (hm.keep HR)).mono ?_
        rintro e v ⟨rfl, hs⟩
        go_wp2_with fail
        go_roundw
        case rel => exact ⟨j + 1, by omega, by go_num, by show _ = _; rw [HF.out, HS.out, if_neg (by omega)]; rfl, below_on HR hs⟩
        case measure => simp [intOf]; omega
    · obtain rfl : j = 1000 := by omega
      go_wp2_with fail
      go_ret2
      exact ⟨ret_pair (p := (0, false)) (by rw [promiseDay_yes g1 g2 g3, HF.out]; rfl), HR⟩
end Go.Proofs.Ytdofhdelcendeaa
