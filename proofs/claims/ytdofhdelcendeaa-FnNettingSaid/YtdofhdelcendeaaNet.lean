/- The walks of NetNeeds. -/
import Derived.Test.YtdofhdelcendeaaPair
import Derived.Test.YtdofhdelcendeaaCovered
namespace Go.Proofs.Ytdofhdelcendeaa
open Go.RowKit
def netTo (rcv dem : List Fl) (stock safety : Int) : Nat → List Fl × Int
  | 0 => ([], 0)
  | d + 1 =>
    if 0 < safety - projected rcv dem stock d - (netTo rcv dem stock safety d).2 then
      ((netTo rcv dem stock safety d).1 ++ [((d : Int), safety - projected rcv dem stock d - (netTo rcv dem stock safety d).2)], (netTo rcv dem stock safety d).2 + (safety - projected rcv dem stock d - (netTo rcv dem stock safety d).2))
    else netTo rcv dem stock safety d
theorem netTo_succ (rcv dem : List Fl) (stock safety : Int) (d : Nat) : netTo rcv dem stock safety (d + 1) =
    if 0 < safety - projected rcv dem stock d - (netTo rcv dem stock safety d).2 then
      ((netTo rcv dem stock safety d).1 ++ [((d : Int), safety - projected rcv dem stock d - (netTo rcv dem stock safety d).2)], (netTo rcv dem stock safety d).2 + (safety - projected rcv dem stock d - (netTo rcv dem stock safety d).2))
    else netTo rcv dem stock safety d := rfl
theorem netTo_bd (rcv dem : List Fl) (stock safety : Int) (h : 0 ≤ safety ∧ safety ≤ 1000000000) (k : Nat) : (netTo rcv dem stock safety k).1.length ≤ k ∧ 0 ≤ (netTo rcv dem stock safety k).2 ∧ (netTo rcv dem stock safety k).2 ≤ 41000000000 := by
  induction k with
  | zero => simp [netTo]
  | succ k ih =>
    have h1 := projected_bd (rcv := rcv) (dem := dem) (stock := stock) (d := k)
    simp only [netTo]
    split
    · simp; omega
    · omega
def netNeeds (rcv dem : List Fl) (stock safety : Int) : List Fl × Bool :=
  if (inB stock 0 1000000000 && (inB safety 0 1000000000 && (areFlows rcv && areFlows dem))) && areFlows (netTo rcv dem stock safety 1000).1 then ((netTo rcv dem stock safety 1000).1, true) else ([], false)
theorem netNeeds_no {rcv dem : List Fl} {stock safety : Int} (h : ((inB stock 0 1000000000 && (inB safety 0 1000000000 && (areFlows rcv && areFlows dem))) && areFlows (netTo rcv dem stock safety 1000).1) = false) : netNeeds rcv dem stock safety = ([], false) := by
  unfold netNeeds; rw [h]; rfl
theorem netNeeds_yes {rcv dem : List Fl} {stock safety : Int} (h : ((inB stock 0 1000000000 && (inB safety 0 1000000000 && (areFlows rcv && areFlows dem))) && areFlows (netTo rcv dem stock safety 1000).1) = true) : netNeeds rcv dem stock safety = ((netTo rcv dem stock safety 1000).1, true) := by
  unfold netNeeds; rw [h]; rfl
theorem netNeeds_flows (rcv dem : List Fl) (stock safety : Int) : areFlows (netNeeds rcv dem stock safety).1 = true := by
  unfold netNeeds
  split
  · rename_i h
    simp only [Bool.and_eq_true] at h
    exact h.2
  · rfl
theorem netNeeds_len (rcv dem : List Fl) (stock safety : Int) : (netNeeds rcv dem stock safety).1.length ≤ 16777216 := by
  have := (areFlows_parts (netNeeds_flows rcv dem stock safety)).2
  omega
set_option maxRecDepth 100000 in
set_option maxHeartbeats 2000000 in
theorem specNetNeeds_any (A B : Option Addr) (n m c c2 : Nat) (rcv dem : List Fl) (stock safety : Int) (w : World) (ha : FlowsIn w A n rcv) (hm : FlowsIn w B m dem) :
    Calls Try.prog 46 #[.int .i64 stock, .int .i64 safety, .slice A n c, .slice B m c2] w (PairRows w (netNeeds rcv dem stock safety)) := by
  have hb : Below w.heap.size w w := Below.refl _ _
  go_enter Try.func46, Try.ntmps46
  go_wp2_with fail
  refine (l1In_any _ _ _ _).mono ?_
  rintro e v ⟨rfl, rfl⟩
  cases g1 : inB stock 0 1000000000
  · go_wp2_with fail
    go_ret2
    exact pairRows_mk (l := []) (netNeeds_no (by simp [g1])) (empty_row rfl hb.size) (hb.alloc hb.size _)
  go_wp2_with fail
  refine (l1In_any _ _ _ _).mono ?_
  rintro e v ⟨rfl, rfl⟩
  cases g2 : inB safety 0 1000000000
  · go_wp2_with fail
    go_ret2
    exact pairRows_mk (l := []) (netNeeds_no (by simp [g2])) (empty_row rfl hb.size) (hb.alloc hb.size _)
  go_wp2_with fail
  refine (specAreFlows_any _ _ _ rcv _ (ha.keep hb)).mono ?_
  rintro e u3 ⟨rfl, hs⟩
  replace hb := below_on hb (hs.below _)
  clear hs
  cases g3 : areFlows rcv
  · go_wp2_with fail
    go_ret2
    exact pairRows_mk (l := []) (netNeeds_no (by simp [g3])) (empty_row rfl hb.size) (hb.alloc hb.size _)
  go_wp2_with fail
  refine (specAreFlows_any _ _ _ dem _ (hm.keep hb)).mono ?_
  rintro e u4 ⟨rfl, hs⟩
  replace hb := below_on hb (hs.below _)
  clear hs
  cases g4 : areFlows dem
  · go_wp2_with fail
    go_ret2
    exact pairRows_mk (l := []) (netNeeds_no (by simp [g4])) (empty_row rfl hb.size) (hb.alloc hb.size _)
  obtain ⟨s1, s2⟩ := inB_iff.1 g1
  obtain ⟨s3, s4⟩ := inB_iff.1 g2
  have HB := Lib.hid (netTo_bd rcv dem stock safety ⟨s3, s4⟩)
  have hsz0 := hb.size
  go_wp2
  have hb0 := hb.alloc hsz0 (.cells #[] 51)
  have hv0 : RowVal flF 51 (u4.alloc (.cells #[] 51)) w.heap.size (.slice (some ⟨u4.heap.size, 0, none⟩) 0 0) [] := empty_row rfl hsz0
  clear hb
  go_loopw [10, 11, 12] (fun v s i wr => ∃ k : Nat, k ≤ 1000 ∧ i = .int .i64 k ∧ s = .int .i64 (netTo rcv dem stock safety k).2 ∧ RowVal flF 51 wr w.heap.size v (netTo rcv dem stock safety k).1 ∧ Below w.heap.size w wr) (fun _ _ i _ => 1000 - (intOf i).toNat)
  case atStart => exact ⟨0, by omega, rfl, rfl, hv0, hb0⟩
  case round =>
    clear hv0 hb0
    obtain ⟨k, hk, rfl, rfl, hrow, HR⟩ := hrel
    by_cases hlt : k ≤ 999
    · have HS := Lib.hid (netTo_succ rcv dem stock safety k)
      obtain ⟨n1, n2, n3⟩ := HB.out k
      generalize hst : netTo rcv dem stock safety k = st at *
      obtain ⟨out, sum⟩ := st
      dsimp only at hrow n1 n2 n3 HS ⊢
      have HST := Lib.hid hst
      clear hst
      have hout : out.length ≤ 1000 := by omega
      obtain ⟨p1, p2⟩ := projected_bd (rcv := rcv) (dem := dem) (stock := stock) (d := k)
      obtain ⟨f1, f2⟩ := flowUpTo_bd rcv k
      obtain ⟨f3, f4⟩ := flowUpTo_bd dem k
      have hpj := projected_yes g1 g3 g4 k
      have HP : Hid (safety - projected rcv dem stock k - sum = safety - sum - stock - flowUpTo rcv k + flowUpTo dem k) := by show safety - projected rcv dem stock k - sum = _; rw [hpj]; omega
      rw [HP.out] at HS
      clear p1 p2 hpj
      by_cases hp : 0 < (safety - sum - stock - flowUpTo rcv k + flowUpTo dem k)
      · go_wp2_with fail
        refine (specFlowUpTo_any _ _ _ rcv k _ (ha.keep HR)).mono ?_
        rintro e v1 ⟨rfl, hd⟩
        replace hrow := hrow.keep (hd.below _)
        replace HR := HR.trans (hd.below _)
        clear hd
        go_wp2_with fail
        refine (specFlowUpTo_any _ _ _ dem k _ (hm.keep HR)).mono ?_
        rintro e v2 ⟨rfl, hd⟩
        replace hrow := hrow.keep (hd.below _)
        replace HR := HR.trans (hd.below _)
        clear hd
        have hsz := HR.size
        go_wp2_with (at_builtin; refine wpList_append_one flowElem rfl _ _ rfl rfl (l := out) hrow (by omega) ((k : Int), (safety - sum - stock - flowUpTo rcv k + flowUpTo dem k)) #[.int .i64 k, .int .i64 (safety - sum - stock - flowUpTo rcv k + flowUpTo dem k)] rfl (by simp [Value.oneCell']) v2.heap.size _ rfl rfl hsz ?_; intro v' w2 hrow' hbl hgr)
        go_roundw
        case rel => exact ⟨k + 1, by omega, by go_num, by rw [HS.out, if_pos (by omega)], by rw [HS.out, if_pos (by omega)]; exact hrow', HR.trans (hbl _ (Nat.le_refl _) hsz)⟩
        case measure => simp [intOf]; omega
      · go_wp2_with fail
        refine (specFlowUpTo_any _ _ _ rcv k _ (ha.keep HR)).mono ?_
        rintro e v1 ⟨rfl, hd⟩
        replace hrow := hrow.keep (hd.below _)
        replace HR := HR.trans (hd.below _)
        clear hd
        go_wp2_with fail
        refine (specFlowUpTo_any _ _ _ dem k _ (hm.keep HR)).mono ?_
        rintro e v2 ⟨rfl, hd⟩
        replace hrow := hrow.keep (hd.below _)
        replace HR := HR.trans (hd.below _)
        clear hd
        go_wp2_with fail
        go_roundw
        case rel => exact ⟨k + 1, by omega, by go_num, by rw [HS.out, if_neg (by omega)], by rw [HS.out, if_neg (by omega)]; exact hrow, HR⟩
        case measure => simp [intOf]; omega
    · obtain rfl : k = 1000 := by omega
      obtain ⟨n1, n2, n3⟩ := HB.out 1000
      obtain ⟨X, C, rfl, hrow2⟩ := hrow.form
      go_wp2_with fail
      refine (specAreFlows_any _ _ _ (netTo rcv dem stock safety 1000).1 _ (hrow2.rows (by omega))).mono ?_
      rintro e v1 ⟨rfl, hs⟩
      replace hrow2 := hrow2.keep (hs.below _)
      replace HR := HR.trans (hs.below _)
      clear hs
      have hsz := HR.size
      cases hfl : areFlows (netTo rcv dem stock safety 1000).1
      · go_wp2_with fail
        go_ret2
        exact pairRows_mk (l := []) (netNeeds_no (by rw [hfl, Bool.and_false])) (empty_row rfl hsz) (HR.alloc hsz _)
      · go_wp2_with fail
        go_ret2
        exact pairRows_mk (netNeeds_yes (by rw [hfl, g1, g2, g3, g4]; rfl)) hrow2.val HR
set_option maxRecDepth 100000 in
set_option maxHeartbeats 2000000 in
theorem implNetNeeds_any (A B : Option Addr) (n m c c2 : Nat) (rcv dem : List Fl) (stock safety : Int) (w : World) (ha : FlowsIn w A n rcv) (hm : FlowsIn w B m dem) :
    Calls Try.prog 45 #[.int .i64 stock, .int .i64 safety, .slice A n c, .slice B m c2] w (PairRows w (netNeeds rcv dem stock safety)) := by
  have hb : Below w.heap.size w w := Below.refl _ _
  go_enter Try.func45, Try.ntmps45
  go_wp2_with fail
  refine (in_any _ _ _ _).mono ?_
  rintro e v ⟨rfl, rfl⟩
  cases g1 : inB stock 0 1000000000
  · go_wp2_with fail
    go_ret2
    exact pairRows_mk (l := []) (netNeeds_no (by simp [g1])) (RowVal.nil _ _) hb
  go_wp2_with fail
  refine (in_any _ _ _ _).mono ?_
  rintro e v ⟨rfl, rfl⟩
  cases g2 : inB safety 0 1000000000
  · go_wp2_with fail
    go_ret2
    exact pairRows_mk (l := []) (netNeeds_no (by simp [g2])) (RowVal.nil _ _) hb
  go_wp2_with fail
  refine (implAreFlows_any _ _ _ rcv _ (ha.keep hb)).mono ?_
  rintro e u3 ⟨rfl, hs⟩
  replace hb := below_on hb hs
  clear hs
  cases g3 : areFlows rcv
  · go_wp2_with fail
    go_ret2
    exact pairRows_mk (l := []) (netNeeds_no (by simp [g3])) (RowVal.nil _ _) hb
  go_wp2_with fail
  refine (implAreFlows_any _ _ _ dem _ (hm.keep hb)).mono ?_
  rintro e u4 ⟨rfl, hs⟩
  replace hb := below_on hb hs
  clear hs
  cases g4 : areFlows dem
  · go_wp2_with fail
    go_ret2
    exact pairRows_mk (l := []) (netNeeds_no (by simp [g4])) (RowVal.nil _ _) hb
  obtain ⟨s1, s2⟩ := inB_iff.1 g1
  obtain ⟨s3, s4⟩ := inB_iff.1 g2
  have HB := Lib.hid (netTo_bd rcv dem stock safety ⟨s3, s4⟩)
  have hsz0 := hb.size
  go_wp2
  have hb0 := hb.alloc hsz0 (.cells #[] 51)
  have hv0 : RowVal flF 51 (u4.alloc (.cells #[] 51)) w.heap.size (.slice (some ⟨u4.heap.size, 0, none⟩) 0 0) [] := empty_row rfl hsz0
  clear hb
  go_loopw [10, 11, 12] (fun v s i wr => ∃ k : Nat, k ≤ 1000 ∧ i = .int .i64 k ∧ s = .int .i64 (netTo rcv dem stock safety k).2 ∧ RowVal flF 51 wr w.heap.size v (netTo rcv dem stock safety k).1 ∧ Below w.heap.size w wr) (fun _ _ i _ => 1000 - (intOf i).toNat)
  case atStart => exact ⟨0, by omega, rfl, rfl, hv0, hb0⟩
  case round =>
    clear hv0 hb0
    obtain ⟨k, hk, rfl, rfl, hrow, HR⟩ := hrel
    by_cases hlt : k ≤ 999
    · have HS := Lib.hid (netTo_succ rcv dem stock safety k)
      obtain ⟨n1, n2, n3⟩ := HB.out k
      generalize hst : netTo rcv dem stock safety k = st at *
      obtain ⟨out, sum⟩ := st
      dsimp only at hrow n1 n2 n3 HS ⊢
      have HST := Lib.hid hst
      clear hst
      have hout : out.length ≤ 1000 := by omega
      obtain ⟨p1, p2⟩ := projected_bd (rcv := rcv) (dem := dem) (stock := stock) (d := k)
      
      by_cases hp : 0 < (safety - projected rcv dem stock k - sum)
      · go_wp2_with fail
        refine (implProjected_any _ _ _ _ _ _ rcv dem _ _ _ (ha.keep HR) (hm.keep HR)).mono ?_
        rintro e v2 ⟨rfl, hs⟩
        replace hrow := hrow.keep hs
        replace HR := below_on HR hs
        clear hs
        have hsz := HR.size
        go_wp2_with (at_builtin; refine wpList_append_one flowElem rfl _ _ rfl rfl (l := out) hrow (by omega) ((k : Int), (safety - projected rcv dem stock k - sum)) #[.int .i64 k, .int .i64 (safety - projected rcv dem stock k - sum)] rfl (by simp [Value.oneCell']) v2.heap.size _ rfl rfl hsz ?_; intro v' w2 hrow' hbl hgr)
        go_roundw
        case rel => exact ⟨k + 1, by omega, by go_num, by rw [HS.out, if_pos (by omega)], by rw [HS.out, if_pos (by omega)]; exact hrow', HR.trans (hbl _ (Nat.le_refl _) hsz)⟩
        case measure => simp [intOf]; omega
      · go_wp2_with fail
        refine (implProjected_any _ _ _ _ _ _ rcv dem _ _ _ (ha.keep HR) (hm.keep HR)).mono ?_
        rintro e v2 ⟨rfl, hs⟩
        replace hrow := hrow.keep hs
        replace HR := below_on HR hs
        clear hs
        go_wp2_with fail
        go_roundw
        case rel => exact ⟨k + 1, by omega, by go_num, by rw [HS.out, if_neg (by omega)], by rw [HS.out, if_neg (by omega)]; exact hrow, HR⟩
        case measure => simp [intOf]; omega
    · obtain rfl : k = 1000 := by omega
      obtain ⟨n1, n2, n3⟩ := HB.out 1000
      obtain ⟨X, C, rfl, hrow2⟩ := hrow.form
      go_wp2_with fail
      refine (implAreFlows_any _ _ _ (netTo rcv dem stock safety 1000).1 _ (hrow2.rows (by omega))).mono ?_
      rintro e v1 ⟨rfl, hs⟩
      replace hrow2 := hrow2.keep hs
      replace HR := below_on HR hs
      clear hs
      have hsz := HR.size
      cases hfl : areFlows (netTo rcv dem stock safety 1000).1
      · go_wp2_with fail
        go_ret2
        exact pairRows_mk (l := []) (netNeeds_no (by rw [hfl, Bool.and_false])) (RowVal.nil _ _) HR
      · go_wp2_with fail
        go_ret2
        exact pairRows_mk (netNeeds_yes (by rw [hfl, g1, g2, g3, g4]; rfl)) hrow2.val HR
end Go.Proofs.Ytdofhdelcendeaa
