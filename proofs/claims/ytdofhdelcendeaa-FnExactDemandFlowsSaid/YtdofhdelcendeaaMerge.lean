/- The walks of MergeFlows. -/
import Derived.Test.YtdofhdelcendeaaAdd2
import Derived.StillTailTactics
namespace Go.Proofs.Ytdofhdelcendeaa
open Go.RowKit
def mergeTo (a b : List Fl) (k : Nat) : List Fl := (b.take k).foldl (fun o f => addS o f.1 f.2) a
theorem mergeTo_succ (a b : List Fl) (k : Nat) (h : k < b.length) : mergeTo a b (k + 1) = addS (mergeTo a b k) b[k].1 b[k].2 := by
  unfold mergeTo
  rw [List.take_succ_eq_append_getElem h, List.foldl_append]; rfl
theorem mergeTo_parts (a b : List Fl) (ha : areFlows a = true) (hb : areFlows b = true) (k : Nat) (hk : k ≤ b.length) :
    ascends (mergeTo a b k) ∧ (mergeTo a b k).length ≤ 40 + k ∧ ∀ f ∈ mergeTo a b k, 0 ≤ f.2 ∧ f.2 ≤ 1000000000 + 1000000000 * k := by
  induction k with
  | zero =>
    refine ⟨areFlows_ascends ha, (areFlows_parts ha).2, fun f hf => ?_⟩
    have := (areFlows_mem ha f hf).2
    simp; omega
  | succ k ih =>
    obtain ⟨h1, h2, h3⟩ := ih (by omega)
    have hm := (areFlows_mem hb b[k] (List.getElem_mem (by omega))).2
    rw [mergeTo_succ a b k (by omega)]
    refine ⟨addS_ascends _ _ _ h1, by have := addS_len (mergeTo a b k) b[k].1 b[k].2; omega, fun f hf => ?_⟩
    have := addS_bd (mergeTo a b k) b[k].1 b[k].2 0 (1000000000 + 1000000000 * k) 0 1000000000 h3 (by omega) (by omega) (by omega) (by omega) (by omega) f hf
    simp; omega
def mergeFlows (a b : List Fl) : List Fl × Bool := if (areFlows a && areFlows b) && areFlows (mergeTo a b b.length) then (mergeTo a b b.length, true) else ([], false)
theorem mergeFlows_no {a b : List Fl} (h : ((areFlows a && areFlows b) && areFlows (mergeTo a b b.length)) = false) : mergeFlows a b = ([], false) := by unfold mergeFlows; rw [h]; rfl
theorem mergeFlows_yes {a b : List Fl} (h : ((areFlows a && areFlows b) && areFlows (mergeTo a b b.length)) = true) : mergeFlows a b = (mergeTo a b b.length, true) := by unfold mergeFlows; rw [h]; rfl
theorem mergeFlows_flows (a b : List Fl) : areFlows (mergeFlows a b).1 = true := by
  unfold mergeFlows
  split
  · rename_i h
    simp only [Bool.and_eq_true] at h
    exact h.2
  · rfl
theorem mergeFlows_len (a b : List Fl) : (mergeFlows a b).1.length ≤ 16777216 := by
  have := (areFlows_parts (mergeFlows_flows a b)).2
  omega
theorem own_cap {w : World} {lo n c : Nat} {A : Option Addr} {l : List Fl} (h : OwnRows flF 51 w lo A n c l) : n ≤ c ∧ c ≤ maxLen := by
  rcases h.2.2 with ⟨hv, h0⟩ | ⟨g, cap, cur, hv, _, _, h1, h2, _⟩
  · injection hv with _ h1 h2; unfold maxLen; omega
  · injection hv with _ h3 h4; subst h4; exact ⟨h1, h2⟩
set_option maxRecDepth 100000 in
set_option maxHeartbeats 2000000 in
theorem specMergeFlows_any (A B : Option Addr) (n m c cb : Nat) (a b : List Fl) (w : World) (ha : FlowsIn w A n a) (hm : FlowsIn w B m b) :
    Calls Try.prog 38 #[.slice A n c, .slice B m cb] w (PairRows w (mergeFlows a b)) := by
  have hb : Below w.heap.size w w := Below.refl _ _
  have hlb := hm.len
  obtain rfl := hm.1
  go_enter Try.func38, Try.ntmps38
  go_wp2_with fail
  refine (specAreFlows_any _ _ _ a _ (ha.keep hb)).mono ?_
  rintro e u1 ⟨rfl, hs⟩
  replace hb := below_on hb (hs.below _)
  clear hs
  cases g1 : areFlows a
  · go_wp2_with fail
    go_ret2
    exact pairRows_mk (l := []) (mergeFlows_no (by simp [g1])) (empty_row rfl hb.size) (hb.alloc hb.size _)
  go_wp2_with fail
  refine (specAreFlows_any _ _ _ b _ (hm.keep hb)).mono ?_
  rintro e u2 ⟨rfl, hs⟩
  replace hb := below_on hb (hs.below _)
  clear hs
  cases g2 : areFlows b
  · go_wp2_with fail
    go_ret2
    exact pairRows_mk (l := []) (mergeFlows_no (by simp [g2])) (empty_row rfl hb.size) (hb.alloc hb.size _)
  have hb40 := (areFlows_parts g2).2
  have HPA := Lib.hid (mergeTo_parts a b g1 g2)
  have hsz0 := hb.size
  have hb1 := hb.alloc hsz0 (.cells #[] 51)
  go_wp2_with (at_builtin; refine wpList_append_copy flowElem flOne rfl (.tmp 17) (.tmp 18) rfl rfl (empty_row rfl (Nat.le_refl _)) rfl (ha.keep hb1) (by simp) ?_; intro A1 c1 w1 ho1 hbl)
  have hB : Below w.heap.size w w1 := hb1.trans (hbl _ (by omega) (by simp; omega))
  have ho0 : OwnRows flF 51 w1 w.heap.size A1 (mergeTo a b 0).length c1 (mergeTo a b 0) := by
    have h0 : mergeTo a b 0 = a := rfl
    rw [h0]
    have := ho1.lower hsz0
    rw [ha.1] at this
    exact this
  have hn1 : n = (mergeTo a b 0).length := ha.1
  clear hbl hb1 hb ho1
  subst hn1
  go_loopw [6, 7] (fun v i wr => ∃ (k : Nat) (A2 : Option Addr) (c2 : Nat), k ≤ b.length ∧ i = .int .i64 k ∧ v = .slice A2 (mergeTo a b k).length c2 ∧ OwnRows flF 51 wr w.heap.size A2 (mergeTo a b k).length c2 (mergeTo a b k) ∧ Below w.heap.size w wr) (fun _ i _ => b.length - (intOf i).toNat)
  case atStart => exact ⟨0, A1, c1, by omega, rfl, rfl, ho0, hB⟩
  case round =>
    clear ho0 hB
    obtain ⟨k, A2, c2, hk, rfl, rfl, ho, HR⟩ := hrel
    obtain ⟨p1, p2, p3⟩ := HPA.out k hk
    have HP := Lib.hid p1
    clear p1
    obtain ⟨k1, k2⟩ := own_cap ho
    by_cases hlt : k < b.length
    · obtain ⟨bb, o, rfl, _, hc1, hc2⟩ := flow_at (hm.keep HR) hlt
      obtain ⟨m1, m2⟩ := (areFlows_mem g2 b[k] (List.getElem_mem hlt)).2
      have HS := Lib.hid (mergeTo_succ a b k hlt)
      have HQ : Hid (∀ f ∈ mergeTo a b k, -1000000000000 ≤ f.2 ∧ f.2 ≤ 1000000000000) := fun f hf => by have := p3 f hf; omega
      clear p3
      go_wp2
      go_still_tail 11, (by kernel_rfl)
      change wpList _ _ _ _ _ wr.drew
      have HE : Below w.heap.size w wr.drew := HR.drew
      have ho2 : OwnRows flF 51 wr.drew w.heap.size A2 (mergeTo a b k).length c2 (mergeTo a b k) := ho
      clear ho HR hc1 hc2
      generalize wr.drew = w2 at *
      go_wp2_with fail
      refine (l14Add_any _ _ _ (mergeTo a b k) _ _ _ (ho2.rows (by omega)) k1 (by unfold maxLen at k2; omega) (by omega) HQ.out (by omega)).mono ?_
      rintro e w3 ⟨A3, c3, rfl, ho3, hb3⟩
      rw [← HS.out] at ho3
      rw [← HS.out]
      go_wp2_with fail
      go_roundw
      case rel => exact ⟨k + 1, A3, c3, by omega, by go_num, rfl, ho3.lower HE.size, below_on HE hb3⟩
      case measure => simp [intOf]; omega
    · obtain rfl : k = b.length := by omega
      clear p3
      go_wp2_with fail
      refine (specAreFlows_any _ _ _ (mergeTo a b b.length) _ (ho.rows (by omega))).mono ?_
      rintro e v1 ⟨rfl, hs⟩
      replace ho := ho.keep (hs.below _)
      replace HR := HR.trans (hs.below _)
      clear hs
      have hsz := HR.size
      cases hfl : areFlows (mergeTo a b b.length)
      · go_wp2_with fail
        go_ret2
        exact pairRows_mk (l := []) (mergeFlows_no (by rw [hfl, Bool.and_false])) (empty_row rfl hsz) (HR.alloc hsz _)
      · go_wp2_with fail
        go_ret2
        exact pairRows_mk (mergeFlows_yes (by rw [hfl, g1, g2]; rfl)) ho.val HR
set_option maxRecDepth 100000 in
set_option maxHeartbeats 2000000 in
theorem implMergeFlows_any (A B : Option Addr) (n m c cb : Nat) (a b : List Fl) (w : World) (ha : FlowsIn w A n a) (hm : FlowsIn w B m b) :
    Calls Try.prog 37 #[.slice A n c, .slice B m cb] w (PairRows w (mergeFlows a b)) := by
  have hb : Below w.heap.size w w := Below.refl _ _
  have hlb := hm.len
  obtain rfl := hm.1
  go_enter Try.func37, Try.ntmps37
  go_wp2_with fail
  refine (implAreFlows_any _ _ _ a _ (ha.keep hb)).mono ?_
  rintro e u1 ⟨rfl, hs⟩
  replace hb := below_on hb hs
  clear hs
  cases g1 : areFlows a
  · go_wp2_with fail
    go_ret2
    exact pairRows_mk (l := []) (mergeFlows_no (by simp [g1])) (RowVal.nil _ _) hb
  go_wp2_with fail
  refine (implAreFlows_any _ _ _ b _ (hm.keep hb)).mono ?_
  rintro e u2 ⟨rfl, hs⟩
  replace hb := below_on hb hs
  clear hs
  cases g2 : areFlows b
  · go_wp2_with fail
    go_ret2
    exact pairRows_mk (l := []) (mergeFlows_no (by simp [g2])) (RowVal.nil _ _) hb
  have hb40 := (areFlows_parts g2).2
  have HPA := Lib.hid (mergeTo_parts a b g1 g2)
  have hsz0 := hb.size
  have hb1 := hb.alloc hsz0 (.cells #[] 51)
  go_wp2_with (at_builtin; refine wpList_append_copy flowElem flOne rfl (.tmp 17) (.tmp 18) rfl rfl (empty_row rfl (Nat.le_refl _)) rfl (ha.keep hb1) (by simp) ?_; intro A1 c1 w1 ho1 hbl)
  have hB : Below w.heap.size w w1 := hb1.trans (hbl _ (by omega) (by simp; omega))
  have ho0 : OwnRows flF 51 w1 w.heap.size A1 (mergeTo a b 0).length c1 (mergeTo a b 0) := by
    have h0 : mergeTo a b 0 = a := rfl
    rw [h0]
    have := ho1.lower hsz0
    rw [ha.1] at this
    exact this
  have hn1 : n = (mergeTo a b 0).length := ha.1
  clear hbl hb1 hb ho1
  subst hn1
  go_loopw [6, 22] (fun v i wr => ∃ (k : Nat) (A2 : Option Addr) (c2 : Nat), k ≤ b.length ∧ i = .int .i64 k ∧ v = .slice A2 (mergeTo a b k).length c2 ∧ OwnRows flF 51 wr w.heap.size A2 (mergeTo a b k).length c2 (mergeTo a b k) ∧ Below w.heap.size w wr) (fun _ i _ => b.length - (intOf i).toNat)
  case atStart => exact ⟨0, A1, c1, by omega, rfl, rfl, ho0, hB⟩
  case round =>
    clear ho0 hB
    obtain ⟨k, A2, c2, hk, rfl, rfl, ho, HR⟩ := hrel
    obtain ⟨p1, p2, p3⟩ := HPA.out k hk
    have HP := Lib.hid p1
    clear p1
    obtain ⟨k1, k2⟩ := own_cap ho
    by_cases hlt : k < b.length
    · obtain ⟨bb, o, rfl, _, hc1, hc2⟩ := flow_at (hm.keep HR) hlt
      obtain ⟨m1, m2⟩ := (areFlows_mem g2 b[k] (List.getElem_mem hlt)).2
      have HS := Lib.hid (mergeTo_succ a b k hlt)
      have HQ : Hid (∀ f ∈ mergeTo a b k, -1000000000000 ≤ f.2 ∧ f.2 ≤ 1000000000000) := fun f hf => by have := p3 f hf; omega
      clear p3
      have hsz := HR.size
      have HA := HR.alloc hsz (.cells #[.int .i64 b[k].1, .int .i64 b[k].2] 51)
      have ho2 := ho.keep (below_alloc wr (.cells #[.int .i64 b[k].1, .int .i64 b[k].2] 51))
      go_wp2_with fail
      refine (addFlow_any _ _ _ (mergeTo a b k) _ _ _ (ho2.rows (by omega)) (by omega) HQ.out (by omega)).mono ?_
      rintro e w3 ⟨A3, c3, rfl, ho3, hb3⟩
      rw [addI_eq _ _ _ HP.out, ← HS.out] at ho3
      rw [addI_eq _ _ _ HP.out, ← HS.out]
      go_wp2_with fail
      go_roundw
      case rel => exact ⟨k + 1, A3, c3, by omega, by go_num, rfl, ho3.lower HA.size, below_on HA hb3⟩
      case measure => simp [intOf]; omega
    · obtain rfl : k = b.length := by omega
      clear p3
      go_wp2_with fail
      refine (implAreFlows_any _ _ _ (mergeTo a b b.length) _ (ho.rows (by omega))).mono ?_
      rintro e v1 ⟨rfl, hs⟩
      replace ho := ho.keep hs
      replace HR := below_on HR hs
      clear hs
      have hsz := HR.size
      cases hfl : areFlows (mergeTo a b b.length)
      · go_wp2_with fail
        go_ret2
        exact pairRows_mk (l := []) (mergeFlows_no (by rw [hfl, Bool.and_false])) (RowVal.nil _ _) HR
      · go_wp2_with fail
        go_ret2
        exact pairRows_mk (mergeFlows_yes (by rw [hfl, g1, g2]; rfl)) ho.val HR
end Go.Proofs.Ytdofhdelcendeaa
