/- The walks of PromiseNext. -/
import Derived.Test.YtdofhdelcendeaaAdd2
import Derived.Test.YtdofhdelcendeaaPromiseDay
namespace Go.Proofs.Ytdofhdelcendeaa
open Go.RowKit
def promiseNext (sup prom : List Fl) (q d : Int) : List Fl × Bool :=
  if (promiseDay sup prom q d).2 && areFlows (addS prom (promiseDay sup prom q d).1 q) then (addS prom (promiseDay sup prom q d).1 q, true) else ([], false)
theorem promiseNext_no {sup prom : List Fl} {q d : Int} (h : ((promiseDay sup prom q d).2 && areFlows (addS prom (promiseDay sup prom q d).1 q)) = false) : promiseNext sup prom q d = ([], false) := by unfold promiseNext; rw [h]; rfl
theorem promiseNext_yes {sup prom : List Fl} {q d : Int} (h : ((promiseDay sup prom q d).2 && areFlows (addS prom (promiseDay sup prom q d).1 q)) = true) : promiseNext sup prom q d = (addS prom (promiseDay sup prom q d).1 q, true) := by unfold promiseNext; rw [h]; rfl
theorem promiseNext_len (sup prom : List Fl) (q d : Int) : (promiseNext sup prom q d).1.length ≤ 16777216 := by
  unfold promiseNext
  split
  · rename_i h
    simp only [Bool.and_eq_true] at h
    have := (areFlows_parts h.2).2
    show (addS prom (promiseDay sup prom q d).1 q).length ≤ _
    omega
  · simp
theorem promiseDay_parts {sup prom : List Fl} {q d : Int} (h : (promiseDay sup prom q d).2 = true) : areFlows prom = true ∧ 1 ≤ q ∧ q ≤ 1000000000 := by
  unfold promiseDay at h
  split at h
  · rename_i hk
    simp only [Bool.and_eq_true, inB_iff] at hk
    exact ⟨(isKept_parts hk.1).2, hk.2.1⟩
  · simp at h
set_option maxRecDepth 100000 in
set_option maxHeartbeats 2000000 in
theorem specPromiseNext_any (A B : Option Addr) (n m c c2 : Nat) (sup prom : List Fl) (q d : Int) (w : World) (ha : FlowsIn w A n sup) (hm : FlowsIn w B m prom) (hnc : m ≤ c2) (hc : c2 ≤ 9223372036854775807) :
    Calls Try.prog 108 #[.slice A n c, .slice B m c2, .int .i64 q, .int .i64 d] w (PairRows w (promiseNext sup prom q d)) := by
  have hno := @promiseNext_no sup prom q d
  have hyes := @promiseNext_yes sup prom q d
  have hpp := @promiseDay_parts sup prom q d
  obtain ⟨p, hp⟩ : ∃ p, p = promiseDay sup prom q d := ⟨_, rfl⟩
  rw [← hp] at hno hyes hpp
  have HN := Lib.hid hno
  have HY := Lib.hid hyes
  have HPP := Lib.hid hpp
  have HP0 := Lib.hid hp
  clear hno hyes hpp hp
  obtain ⟨day, ok⟩ := p
  go_enter Try.func108, Try.ntmps108
  go_wp2_with fail
  refine (specPromiseDay_any _ _ _ _ _ _ sup prom _ _ _ ha hm).mono ?_
  rintro e v1 ⟨rfl, hs⟩
  have hb : Below w.heap.size w v1 := (hs.below _)
  clear hs
  have hsz := hb.size
  rw [← HP0.out]
  unfold pairV
  cases ok
  · go_wp2_with fail
    go_ret2
    exact pairRows_mk (l := []) (HN.out rfl) (empty_row rfl hsz) (hb.alloc hsz _)
  · obtain ⟨f1, q1, q2⟩ := HPP.out rfl
    have HP := Lib.hid (areFlows_ascends f1)
    have HQ : Hid (∀ f ∈ prom, -1000000000000 ≤ f.2 ∧ f.2 ≤ 1000000000000) := fun f hf => by have := (areFlows_mem f1 f hf).2; omega
    have hl40 := (areFlows_parts f1).2
    have hal := addS_len prom day q
    go_wp2_with fail
    refine (l14Add_any _ _ _ prom _ _ _ (hm.keep hb) hnc hc (by omega) HQ.out (by omega)).mono ?_
    rintro e v2 ⟨A3, c3, rfl, ho, hs⟩
    replace ho := ho.lower hsz
    replace hb := below_on hb hs
    clear hs
    go_wp2_with fail
    refine (specAreFlows_any _ _ _ (addS prom day q) _ (ho.rows (by omega))).mono ?_
    rintro e v3 ⟨rfl, hs⟩
    replace ho := ho.keep (hs.below _)
    replace hb := hb.trans (hs.below _)
    clear hs
    have hsz3 := hb.size
    cases hfl : areFlows (addS prom day q)
    · go_wp2_with fail
      go_ret2
      exact pairRows_mk (l := []) (HN.out (by rw [hfl, Bool.and_false])) (empty_row rfl hsz3) (hb.alloc hsz3 _)
    · go_wp2_with fail
      go_ret2
      exact pairRows_mk (HY.out (by rw [hfl]; rfl)) ho.val hb
set_option maxRecDepth 100000 in
set_option maxHeartbeats 2000000 in
theorem implPromiseNext_any (A B : Option Addr) (n m c c2 : Nat) (sup prom : List Fl) (q d : Int) (w : World) (ha : FlowsIn w A n sup) (hm : FlowsIn w B m prom) :
    Calls Try.prog 57 #[.slice A n c, .slice B m c2, .int .i64 q, .int .i64 d] w (PairRows w (promiseNext sup prom q d)) := by
  have hno := @promiseNext_no sup prom q d
  have hyes := @promiseNext_yes sup prom q d
  have hpp := @promiseDay_parts sup prom q d
  obtain ⟨p, hp⟩ : ∃ p, p = promiseDay sup prom q d := ⟨_, rfl⟩
  rw [← hp] at hno hyes hpp
  have HN := Lib.hid hno
  have HY := Lib.hid hyes
  have HPP := Lib.hid hpp
  have HP0 := Lib.hid hp
  clear hno hyes hpp hp
  obtain ⟨day, ok⟩ := p
  go_enter Try.func57, Try.ntmps57
  go_wp2_with fail
  refine (implPromiseDay_any _ _ _ _ _ _ sup prom _ _ _ ha hm).mono ?_
  rintro e v1 ⟨rfl, hs⟩
  have hb : Below w.heap.size w v1 := hs
  clear hs
  have hsz := hb.size
  rw [← HP0.out]
  unfold pairV
  cases ok
  · go_wp2_with fail
    go_ret2
    exact pairRows_mk (l := []) (HN.out rfl) (RowVal.nil _ _) hb
  · obtain ⟨f1, q1, q2⟩ := HPP.out rfl
    have HP := Lib.hid (areFlows_ascends f1)
    have HQ : Hid (∀ f ∈ prom, -1000000000000 ≤ f.2 ∧ f.2 ≤ 1000000000000) := fun f hf => by have := (areFlows_mem f1 f hf).2; omega
    have hl40 := (areFlows_parts f1).2
    have hal := addS_len prom day q
    go_wp2_with fail
    refine (addFlow_any _ _ _ prom _ _ _ (hm.keep hb) (by omega) HQ.out (by omega)).mono ?_
    rintro e v2 ⟨A3, c3, rfl, ho, hs⟩
    rw [addI_eq _ _ _ HP.out] at ho
    rw [addI_eq _ _ _ HP.out]
    replace ho := ho.lower hsz
    replace hb := below_on hb hs
    clear hs
    go_wp2_with fail
    refine (implAreFlows_any _ _ _ (addS prom day q) _ (ho.rows (by omega))).mono ?_
    rintro e v3 ⟨rfl, hs⟩
    replace ho := ho.keep hs
    replace hb := below_on hb hs
    clear hs
    have hsz3 := hb.size
    cases hfl : areFlows (addS prom day q)
    · go_wp2_with fail
      go_ret2
      exact pairRows_mk (l := []) (HN.out (by rw [hfl, Bool.and_false])) (RowVal.nil _ _) hb
    · go_wp2_with fail
      go_ret2
      exact pairRows_mk (HY.out (by rw [hfl]; rfl)) ho.val hb
end Go.Proofs.Ytdofhdelcendeaa
