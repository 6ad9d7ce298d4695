/- Part 22 of the texts of this claim: The walks of Projected and IsCovered; The walks of NetNeeds; The walks of the rule of lots; Lots for needs: what the reference's loop and the program's come to. -/
import Derived.Test.YtlnkofnfgemfdaaGreatIp21
import Derived.Test.YtlnkofnfgemfdaaGreatIp11
import Derived.Test.YtlnkofnfgemfdaaGreatIp1
/- The walks of Projected and IsCovered. -/
namespace Go.Proofs.YtlnkofnfgemfdaaGreat
open Go.RowKit
def projected (rcv dem : List Fl) (stock d : Int) : Int := if inB stock 0 1000000000 && (areFlows rcv && areFlows dem) then stock + flowUpTo rcv d - flowUpTo dem d else 0
theorem projected_no {rcv dem : List Fl} {stock d : Int} (h : (inB stock 0 1000000000 && (areFlows rcv && areFlows dem)) = false) : projected rcv dem stock d = 0 := by simp [projected, h]
theorem projected_yes {rcv dem : List Fl} {stock : Int} (h1 : inB stock 0 1000000000 = true) (h2 : areFlows rcv = true) (h3 : areFlows dem = true) (d : Int) : projected rcv dem stock d = stock + flowUpTo rcv d - flowUpTo dem d := by simp [projected, h1, h2, h3]
theorem projected_bd {rcv dem : List Fl} {stock d : Int} : -40000000000 ≤ projected rcv dem stock d ∧ projected rcv dem stock d ≤ 41000000000 := by
  unfold projected
  split
  · rename_i h
    simp only [Bool.and_eq_true, inB_iff] at h
    have h1 := flowUpTo_bd rcv d
    have h2 := flowUpTo_bd dem d
    omega
  · omega
def isCovered (rcv dem : List Fl) (stock safety : Int) : Bool :=
  (inB stock 0 1000000000 && (inB safety 0 1000000000 && (areFlows rcv && areFlows dem))) && (List.range 1000).all fun d => decide (safety ≤ projected rcv dem stock d)
theorem isCovered_no {rcv dem : List Fl} {stock safety : Int} (h : (inB stock 0 1000000000 && (inB safety 0 1000000000 && (areFlows rcv && areFlows dem))) = false) : isCovered rcv dem stock safety = false := by
  unfold isCovered; rw [h]; rfl
theorem isCovered_at {rcv dem : List Fl} {stock safety : Int} {k : Nat} (hk : k < 1000) (h : projected rcv dem stock k < safety) : isCovered rcv dem stock safety = false := by
  unfold isCovered
  have : ((List.range 1000).all fun d => decide (safety ≤ projected rcv dem stock d)) = false := by
    rw [List.all_eq_false]
    exact ⟨k, by rw [List.mem_range]; exact hk, by simp; omega⟩
  rw [this, Bool.and_false]
theorem isCovered_yes {rcv dem : List Fl} {stock safety : Int} (h1 : inB stock 0 1000000000 = true) (h2 : inB safety 0 1000000000 = true) (h3 : areFlows rcv = true) (h4 : areFlows dem = true) (h : ∀ k : Nat, k < 1000 → safety ≤ projected rcv dem stock k) : isCovered rcv dem stock safety = true := by
  unfold isCovered
  have : ((List.range 1000).all fun d => decide (safety ≤ projected rcv dem stock d)) = true := by
    rw [List.all_eq_true]
    intro k hk
    rw [List.mem_range] at hk
    exact decide_eq_true (h k hk)
  rw [this, h1, h2, h3, h4]; rfl
set_option maxRecDepth 100000 in
set_option maxHeartbeats 1000000 in
theorem implProjected_any (A B : Option Addr) (n m c c2 : Nat) (rcv dem : List Fl) (stock d : Int) (w : World) (ha : FlowsIn w A n rcv) (hm : FlowsIn w B m dem) :
    Calls Tryz.prog 118 #[.int .i64 stock, .slice A n c, .slice B m c2, .int .i64 d] w fun e w' => e = .returned (.int .i64 (projected rcv dem stock d)) ∧ Below w.heap.size w w' := by
  have hb : Below w.heap.size w w := Below.refl _ _
  go_enter Tryz.func118, Tryz.ntmps118
  go_wp2_with fail
  refine (in_any _ _ _ _).mono ?_
  rintro e v ⟨rfl, rfl⟩
  cases g1 : inB stock 0 1000000000
  · go_wp2_with fail
    go_ret
    exact ⟨ret_int (projected_no (by simp [g1])).symm, hb⟩
  go_wp2_with fail
  refine (implAreFlows_any _ _ _ rcv _ (ha.keep hb)).mono ?_
  rintro e u2 ⟨rfl, hs⟩
  replace hb := below_on hb hs
  clear hs
  cases g2 : areFlows rcv
  · go_wp2_with fail
    go_ret
    exact ⟨ret_int (projected_no (by simp [g2])).symm, hb⟩
  go_wp2_with fail
  refine (implAreFlows_any _ _ _ dem _ (hm.keep hb)).mono ?_
  rintro e u3 ⟨rfl, hs⟩
  replace hb := below_on hb hs
  clear hs
  cases g3 : areFlows dem
  · go_wp2_with fail
    go_ret
    exact ⟨ret_int (projected_no (by simp [g3])).symm, hb⟩
  obtain ⟨b1, b2⟩ := flowUpTo_bd rcv d
  obtain ⟨b3, b4⟩ := flowUpTo_bd dem d
  obtain ⟨b5, b6⟩ := inB_iff.1 g1
  go_wp2_with fail
  refine (implFlowUpTo_any _ _ _ rcv d _ (ha.keep hb)).mono ?_
  rintro e v1 ⟨rfl, hs⟩
  replace hb := below_on hb hs
  clear hs
  go_wp2_with fail
  refine (implFlowUpTo_any _ _ _ dem d _ (hm.keep hb)).mono ?_
  rintro e v2 ⟨rfl, hs⟩
  replace hb := below_on hb hs
  clear hs
  go_wp2_with fail
  go_ret
  exact ⟨ret_int (projected_yes g1 g2 g3 d).symm, hb⟩
end Go.Proofs.YtlnkofnfgemfdaaGreat
/- The walks of NetNeeds. -/
namespace Go.Proofs.YtlnkofnfgemfdaaGreat
open Go.RowKit
def netTo (rcv dem : List Fl) (stock safety : Int) : Nat → List Fl × Int
  | 0 => ([], 0)
  | d + 1 =>
    if 0 < safety - projected rcv dem stock d - (netTo rcv dem stock safety d).2 then
      ((netTo rcv dem stock safety d).1 ++ [((d : Int), safety - projected rcv dem stock d - (netTo rcv dem stock safety d).2)], (netTo rcv dem stock safety d).2 + (safety - projected rcv dem stock d - (netTo rcv dem stock safety d).2))
    else netTo rcv dem stock safety d
theorem netTo_succ (rcv dem : List Fl) (stock safety : Int) (d : Nat) : netTo rcv dem stock safety (d + 1) =
    if 0 < safety - projected rcv dem stock d - (netTo rcv dem stock safety d).2 then
      ((netTo rcv dem stock safety d).1 ++ [((d : Int), safety - projected rcv dem stock d - (netTo rcv dem stock safety d).2)], (netTo rcv dem stock safety d).2 + (safety - projected rcv dem stock d - (netTo rcv dem stock safety d).2))
    else netTo rcv dem stock safety d := rfl
theorem netTo_bd (rcv dem : List Fl) (stock safety : Int) (h : 0 ≤ safety ∧ safety ≤ 1000000000) (k : Nat) : (netTo rcv dem stock safety k).1.length ≤ k ∧ 0 ≤ (netTo rcv dem stock safety k).2 ∧ (netTo rcv dem stock safety k).2 ≤ 41000000000 := by
  induction k with
  | zero => simp [netTo]
  | succ k ih =>
    have h1 := projected_bd (rcv := rcv) (dem := dem) (stock := stock) (d := k)
    simp only [netTo]
    split
    · simp; omega
    · omega
def netNeeds (rcv dem : List Fl) (stock safety : Int) : List Fl × Bool :=
  if (inB stock 0 1000000000 && (inB safety 0 1000000000 && (areFlows rcv && areFlows dem))) && areFlows (netTo rcv dem stock safety 1000).1 then ((netTo rcv dem stock safety 1000).1, true) else ([], false)
theorem netNeeds_no {rcv dem : List Fl} {stock safety : Int} (h : ((inB stock 0 1000000000 && (inB safety 0 1000000000 && (areFlows rcv && areFlows dem))) && areFlows (netTo rcv dem stock safety 1000).1) = false) : netNeeds rcv dem stock safety = ([], false) := by
  unfold netNeeds; rw [h]; rfl
theorem netNeeds_yes {rcv dem : List Fl} {stock safety : Int} (h : ((inB stock 0 1000000000 && (inB safety 0 1000000000 && (areFlows rcv && areFlows dem))) && areFlows (netTo rcv dem stock safety 1000).1) = true) : netNeeds rcv dem stock safety = ((netTo rcv dem stock safety 1000).1, true) := by
  unfold netNeeds; rw [h]; rfl
theorem netNeeds_flows (rcv dem : List Fl) (stock safety : Int) : areFlows (netNeeds rcv dem stock safety).1 = true := by
  unfold netNeeds
  split
  · rename_i h
    simp only [Bool.and_eq_true] at h
    exact h.2
  · rfl
theorem netNeeds_len (rcv dem : List Fl) (stock safety : Int) : (netNeeds rcv dem stock safety).1.length ≤ 16777216 := by
  have := (areFlows_parts (netNeeds_flows rcv dem stock safety)).2
  omega
set_option maxRecDepth 100000 in
set_option maxHeartbeats 2000000 in
theorem specNetNeeds_any (A B : Option Addr) (n m c c2 : Nat) (rcv dem : List Fl) (stock safety : Int) (w : World) (ha : FlowsIn w A n rcv) (hm : FlowsIn w B m dem) :
    Calls Tryz.prog 40 #[.int .i64 stock, .int .i64 safety, .slice A n c, .slice B m c2] w (PairRows w (netNeeds rcv dem stock safety)) := by
  have hb : Below w.heap.size w w := Below.refl _ _
  go_enter Tryz.func40, Tryz.ntmps40
  go_wp2_with fail
  refine (l1In_any _ _ _ _).mono ?_
  rintro e v ⟨rfl, rfl⟩
  cases g1 : inB stock 0 1000000000
  · go_wp2_with fail
    go_ret2
    exact pairRows_mk (l := []) (netNeeds_no (by simp [g1])) (empty_row rfl hb.size) (hb.alloc hb.size _)
  go_wp2_with fail
  refine (l1In_any _ _ _ _).mono ?_
  rintro e v ⟨rfl, rfl⟩
  cases g2 : inB safety 0 1000000000
  · go_wp2_with fail
    go_ret2
    exact pairRows_mk (l := []) (netNeeds_no (by simp [g2])) (empty_row rfl hb.size) (hb.alloc hb.size _)
  go_wp2_with fail
  refine (specAreFlows_any _ _ _ rcv _ (ha.keep hb)).mono ?_
  rintro e u3 ⟨rfl, hs⟩
  replace hb := below_on hb (hs.below _)
  clear hs
  cases g3 : areFlows rcv
  · go_wp2_with fail
    go_ret2
    exact pairRows_mk (l := []) (netNeeds_no (by simp [g3])) (empty_row rfl hb.size) (hb.alloc hb.size _)
  go_wp2_with fail
  refine (specAreFlows_any _ _ _ dem _ (hm.keep hb)).mono ?_
  rintro e u4 ⟨rfl, hs⟩
  replace hb := below_on hb (hs.below _)
  clear hs
  cases g4 : areFlows dem
  · go_wp2_with fail
    go_ret2
    exact pairRows_mk (l := []) (netNeeds_no (by simp [g4])) (empty_row rfl hb.size) (hb.alloc hb.size _)
  obtain ⟨s1, s2⟩ := inB_iff.1 g1
  obtain ⟨s3, s4⟩ := inB_iff.1 g2
  have HB := Lib.hid (netTo_bd rcv dem stock safety ⟨s3, s4⟩)
  have hsz0 := hb.size
  go_wp2
  have hb0 := hb.alloc hsz0 (.cells #[] 90)
  have hv0 : RowVal flF 90 (u4.alloc (.cells #[] 90)) w.heap.size (.slice (some ⟨u4.heap.size, 0, none⟩) 0 0) [] := empty_row rfl hsz0
  clear hb
  go_loopw [10, 11, 12] (fun v s i wr => ∃ k : Nat, k ≤ 1000 ∧ i = .int .i64 k ∧ s = .int .i64 (netTo rcv dem stock safety k).2 ∧ RowVal flF 90 wr w.heap.size v (netTo rcv dem stock safety k).1 ∧ Below w.heap.size w wr) (fun _ _ i _ => 1000 - (intOf i).toNat)
  case atStart => exact ⟨0, by omega, rfl, rfl, hv0, hb0⟩
  case round =>
    clear hv0 hb0
    obtain ⟨k, hk, rfl, rfl, hrow, HR⟩ := hrel
    by_cases hlt : k ≤ 999
    · have HS := Lib.hid (netTo_succ rcv dem stock safety k)
      obtain ⟨n1, n2, n3⟩ := HB.out k
      generalize hst : netTo rcv dem stock safety k = st at *
      obtain ⟨out, sum⟩ := st
      dsimp only at hrow n1 n2 n3 HS ⊢
      have HST := Lib.hid hst
      clear hst
      have hout : out.length ≤ 1000 := by omega
      obtain ⟨p1, p2⟩ := projected_bd (rcv := rcv) (dem := dem) (stock := stock) (d := k)
      obtain ⟨f1, f2⟩ := flowUpTo_bd rcv k
      obtain ⟨f3, f4⟩ := flowUpTo_bd dem k
      have hpj := projected_yes g1 g3 g4 k
      have HP : Hid (safety - projected rcv dem stock k - sum = safety - sum - stock - flowUpTo rcv k + flowUpTo dem k) := by show safety - projected rcv dem stock k - sum = _; rw [hpj]; omega
      rw [HP.out] at HS
      clear p1 p2 hpj
      by_cases hp : 0 < (safety - sum - stock - flowUpTo rcv k + flowUpTo dem k)
      · go_wp2_with fail
        refine (specFlowUpTo_any _ _ _ rcv k _ (ha.keep HR)).mono ?_
        rintro e v1 ⟨rfl, hd⟩
        replace hrow := hrow.keep (hd.below _)
        replace HR := HR.trans (hd.below _)
        clear hd
        go_wp2_with fail
        refine (specFlowUpTo_any _ _ _ dem k _ (hm.keep HR)).mono ?_
        rintro e v2 ⟨rfl, hd⟩
        replace hrow := hrow.keep (hd.below _)
        replace HR := HR.trans (hd.below _)
        clear hd
        have hsz := HR.size
        go_wp2_with (at_builtin; refine wpList_append_one flowElem rfl _ _ rfl rfl (l := out) hrow (by omega) ((k : Int), (safety - sum - stock - flowUpTo rcv k + flowUpTo dem k)) #[.int .i64 k, .int .i64 (safety - sum - stock - flowUpTo rcv k + flowUpTo dem k)] rfl (by simp [Value.oneCell']) v2.heap.size _ rfl rfl hsz ?_; intro v' w2 hrow' hbl hgr)
        go_roundw
        case rel => exact ⟨k + 1, by omega, by go_num, by rw [HS.out, if_pos (by omega)], by rw [HS.out, if_pos (by omega)]; exact hrow', HR.trans (hbl _ (Nat.le_refl _) hsz)⟩
        case measure => simp [intOf]; omega
      · go_wp2_with fail
        refine (specFlowUpTo_any _ _ _ rcv k _ (ha.keep HR)).mono ?_
        rintro e v1 ⟨rfl, hd⟩
        replace hrow := hrow.keep (hd.below _)
        replace HR := HR.trans (hd.below _)
        clear hd
        go_wp2_with fail
        refine (specFlowUpTo_any _ _ _ dem k _ (hm.keep HR)).mono ?_
        rintro e v2 ⟨rfl, hd⟩
        replace hrow := hrow.keep (hd.below _)
        replace HR := HR.trans (hd.below _)
        clear hd
        go_wp2_with fail
        go_roundw
        case rel => exact ⟨k + 1, by omega, by go_num, by rw [HS.out, if_neg (by omega)], by rw [HS.out, if_neg (by omega)]; exact hrow, HR⟩
        case measure => simp [intOf]; omega
    · obtain rfl : k = 1000 := by omega
      obtain ⟨n1, n2, n3⟩ := HB.out 1000
      obtain ⟨X, C, rfl, hrow2⟩ := hrow.form
      go_wp2_with fail
      refine (specAreFlows_any _ _ _ (netTo rcv dem stock safety 1000).1 _ (hrow2.rows (by omega))).mono ?_
      rintro e v1 ⟨rfl, hs⟩
      replace hrow2 := hrow2.keep (hs.below _)
      replace HR := HR.trans (hs.below _)
      clear hs
      have hsz := HR.size
      cases hfl : areFlows (netTo rcv dem stock safety 1000).1
      · go_wp2_with fail
        go_ret2
        exact pairRows_mk (l := []) (netNeeds_no (by rw [hfl, Bool.and_false])) (empty_row rfl hsz) (HR.alloc hsz _)
      · go_wp2_with fail
        go_ret2
        exact pairRows_mk (netNeeds_yes (by rw [hfl, g1, g2, g3, g4]; rfl)) hrow2.val HR
set_option maxRecDepth 100000 in
set_option maxHeartbeats 2000000 in
theorem implNetNeeds_any (A B : Option Addr) (n m c c2 : Nat) (rcv dem : List Fl) (stock safety : Int) (w : World) (ha : FlowsIn w A n rcv) (hm : FlowsIn w B m dem) :
    Calls Tryz.prog 56 #[.int .i64 stock, .int .i64 safety, .slice A n c, .slice B m c2] w (PairRows w (netNeeds rcv dem stock safety)) := by
  have hb : Below w.heap.size w w := Below.refl _ _
  go_enter Tryz.func56, Tryz.ntmps56
  go_wp2_with fail
  refine (in_any _ _ _ _).mono ?_
  rintro e v ⟨rfl, rfl⟩
  cases g1 : inB stock 0 1000000000
  · go_wp2_with fail
    go_ret2
    exact pairRows_mk (l := []) (netNeeds_no (by simp [g1])) (RowVal.nil _ _) hb
  go_wp2_with fail
  refine (in_any _ _ _ _).mono ?_
  rintro e v ⟨rfl, rfl⟩
  cases g2 : inB safety 0 1000000000
  · go_wp2_with fail
    go_ret2
    exact pairRows_mk (l := []) (netNeeds_no (by simp [g2])) (RowVal.nil _ _) hb
  go_wp2_with fail
  refine (implAreFlows_any _ _ _ rcv _ (ha.keep hb)).mono ?_
  rintro e u3 ⟨rfl, hs⟩
  replace hb := below_on hb hs
  clear hs
  cases g3 : areFlows rcv
  · go_wp2_with fail
    go_ret2
    exact pairRows_mk (l := []) (netNeeds_no (by simp [g3])) (RowVal.nil _ _) hb
  go_wp2_with fail
  refine (implAreFlows_any _ _ _ dem _ (hm.keep hb)).mono ?_
  rintro e u4 ⟨rfl, hs⟩
  replace hb := below_on hb hs
  clear hs
  cases g4 : areFlows dem
  · go_wp2_with fail
    go_ret2
    exact pairRows_mk (l := []) (netNeeds_no (by simp [g4])) (RowVal.nil _ _) hb
  obtain ⟨s1, s2⟩ := inB_iff.1 g1
  obtain ⟨s3, s4⟩ := inB_iff.1 g2
  have HB := Lib.hid (netTo_bd rcv dem stock safety ⟨s3, s4⟩)
  have hsz0 := hb.size
  go_wp2
  have hb0 := hb.alloc hsz0 (.cells #[] 90)
  have hv0 : RowVal flF 90 (u4.alloc (.cells #[] 90)) w.heap.size (.slice (some ⟨u4.heap.size, 0, none⟩) 0 0) [] := empty_row rfl hsz0
  clear hb
  go_loopw [10, 11, 12] (fun v s i wr => ∃ k : Nat, k ≤ 1000 ∧ i = .int .i64 k ∧ s = .int .i64 (netTo rcv dem stock safety k).2 ∧ RowVal flF 90 wr w.heap.size v (netTo rcv dem stock safety k).1 ∧ Below w.heap.size w wr) (fun _ _ i _ => 1000 - (intOf i).toNat)
  case atStart => exact ⟨0, by omega, rfl, rfl, hv0, hb0⟩
  case round =>
    clear hv0 hb0
    obtain ⟨k, hk, rfl, rfl, hrow, HR⟩ := hrel
    by_cases hlt : k ≤ 999
    · have HS := Lib.hid (netTo_succ rcv dem stock safety k)
      obtain ⟨n1, n2, n3⟩ := HB.out k
      generalize hst : netTo rcv dem stock safety k = st at *
      obtain ⟨out, sum⟩ := st
      dsimp only at hrow n1 n2 n3 HS ⊢
      have HST := Lib.hid hst
      clear hst
      have hout : out.length ≤ 1000 := by omega
      obtain ⟨p1, p2⟩ := projected_bd (rcv := rcv) (dem := dem) (stock := stock) (d := k)
      
      by_cases hp : 0 < (safety - projected rcv dem stock k - sum)
      · go_wp2_with fail
        refine (implProjected_any _ _ _ _ _ _ rcv dem _ _ _ (ha.keep HR) (hm.keep HR)).mono ?_
        rintro e v2 ⟨rfl, hs⟩
        replace hrow := hrow.keep hs
        replace HR := below_on HR hs
        clear hs
        have hsz := HR.size
        go_wp2_with (at_builtin; refine wpList_append_one flowElem rfl _ _ rfl rfl (l := out) hrow (by omega) ((k : Int), (safety - projected rcv dem stock k - sum)) #[.int .i64 k, .int .i64 (safety - projected rcv dem stock k - sum)] rfl (by simp [Value.oneCell']) v2.heap.size _ rfl rfl hsz ?_; intro v' w2 hrow' hbl hgr)
        go_roundw
        case rel => exact ⟨k + 1, by omega, by go_num, by rw [HS.out, if_pos (by omega)], by rw [HS.out, if_pos (by omega)]; exact hrow', HR.trans (hbl _ (Nat.le_refl _) hsz)⟩
        case measure => simp [intOf]; omega
      · go_wp2_with fail
        refine (implProjected_any _ _ _ _ _ _ rcv dem _ _ _ (ha.keep HR) (hm.keep HR)).mono ?_
        rintro e v2 ⟨rfl, hs⟩
        replace hrow := hrow.keep hs
        replace HR := below_on HR hs
        clear hs
        go_wp2_with fail
        go_roundw
        case rel => exact ⟨k + 1, by omega, by go_num, by rw [HS.out, if_neg (by omega)], by rw [HS.out, if_neg (by omega)]; exact hrow, HR⟩
        case measure => simp [intOf]; omega
    · obtain rfl : k = 1000 := by omega
      obtain ⟨n1, n2, n3⟩ := HB.out 1000
      obtain ⟨X, C, rfl, hrow2⟩ := hrow.form
      go_wp2_with fail
      refine (implAreFlows_any _ _ _ (netTo rcv dem stock safety 1000).1 _ (hrow2.rows (by omega))).mono ?_
      rintro e v1 ⟨rfl, hs⟩
      replace hrow2 := hrow2.keep hs
      replace HR := below_on HR hs
      clear hs
      have hsz := HR.size
      cases hfl : areFlows (netTo rcv dem stock safety 1000).1
      · go_wp2_with fail
        go_ret2
        exact pairRows_mk (l := []) (netNeeds_no (by rw [hfl, Bool.and_false])) (RowVal.nil _ _) HR
      · go_wp2_with fail
        go_ret2
        exact pairRows_mk (netNeeds_yes (by rw [hfl, g1, g2, g3, g4]; rfl)) hrow2.val HR
end Go.Proofs.YtlnkofnfgemfdaaGreat
/- The walks of the rule of lots. -/
namespace Go.Proofs.YtlnkofnfgemfdaaGreat
open Go.RowKit
def lotRule (r s : Int) : Bool := ((r == 0) && (s == 0)) || (((r == 1) || (r == 2)) && inB s 1 1000)
theorem inB_12 (r : Int) : inB r 1 2 = ((r == 1) || (r == 2)) := by
  rw [Bool.eq_iff_iff, inB_iff]
  simp only [Bool.or_eq_true, beq_iff_eq]
  omega
set_option maxRecDepth 100000 in
set_option maxHeartbeats 2000000 in
theorem l15Rule_any (r s : Int) (w : World) : Calls Tryz.prog 104 #[.int .i64 r, .int .i64 s] w fun e w' => e = .returned (.bool (lotRule r s)) ∧ w = w' := by
  unfold lotRule
  rw [← inB_12]
  cases h1 : (r == 0) <;> cases h2 : (s == 0) <;> cases h3 : inB r 1 2 <;> cases h4 : inB s 1 1000
  all_goals
    go_enter Tryz.func104, Tryz.ntmps104
    go_wp2_with (go_at_call 101; refine (l1In_any _ _ _ _).mono ?_; rintro e w' ⟨rfl, rfl⟩)
    go_ret
    exact ⟨rfl, rfl⟩
set_option maxRecDepth 100000 in
set_option maxHeartbeats 2000000 in
theorem isLotRule_any (r s : Int) (w : World) : Calls Tryz.prog 120 #[.int .i64 r, .int .i64 s] w fun e w' => e = .returned (.bool (lotRule r s)) ∧ w = w' := by
  unfold lotRule
  cases h1 : (r == 0) <;> cases h2 : (s == 0) <;> cases h3 : (r == 1) <;> cases h5 : (r == 2) <;> cases h4 : inB s 1 1000
  all_goals
    go_enter Tryz.func120, Tryz.ntmps120
    go_wp2_with (go_at_call 117; refine (in_any _ _ _ _).mono ?_; rintro e w' ⟨rfl, rfl⟩)
    go_ret
    exact ⟨rfl, rfl⟩
end Go.Proofs.YtlnkofnfgemfdaaGreat
/- Lots for needs: what the reference's loop and the program's come to. -/
namespace Go.Proofs.YtlnkofnfgemfdaaGreat

theorem ceil_eq (n d : Int) (hd : 1 ≤ d) : -((-n) / d) = (n + d - 1) / d := by
  have h1 := Int.mul_ediv_add_emod (-n) d
  have h2 := Int.emod_nonneg (-n) (show d ≠ 0 by omega)
  have h3 := Int.emod_lt_of_pos (-n) (show 0 < d by omega)
  symm
  rw [show n + d - 1 = (d - 1 - (-n) % d) + d * (-((-n) / d)) by rw [Int.mul_neg]; omega, Int.add_mul_ediv_left _ _ (by omega), Int.ediv_eq_zero_of_lt (by omega) (by omega)]
  omega
/-- The size of a lot of whole pieces of 'size' that covers n. -/
def lotUp (n size : Int) : Int := (n + size - 1) / size * size
theorem lotUp_bd (n size : Int) (h1 : 1 ≤ size) (h2 : size ≤ 1000) (h3 : 1 ≤ n) (h4 : n ≤ 1000000000) : n ≤ lotUp n size ∧ lotUp n size - n < size ∧ lotUp n size ≤ 1000001000 ∧ 0 ≤ (n + size - 1) / size ∧ (n + size - 1) / size ≤ 1000001000 := by
  have e1 := Int.mul_ediv_add_emod (n + size - 1) size
  have e2 := Int.emod_nonneg (n + size - 1) (show size ≠ 0 by omega)
  have e3 := Int.emod_lt_of_pos (n + size - 1) (show 0 < size by omega)
  have e4 : lotUp n size = size * ((n + size - 1) / size) := Int.mul_comm _ _
  have e5 : 0 ≤ (n + size - 1) / size := Int.ediv_nonneg (by omega) (by omega)
  have e6 : (n + size - 1) / size ≤ n + size - 1 := Int.ediv_le_self _ (by omega)
  omega
def lastDay (l : List Fl) : Int := (l.getD (l.length - 1) (0, 0)).1
/-- The last flow with so much more. -/
def bump (l : List Fl) (q : Int) : List Fl := l.set (l.length - 1) (lastDay l, (l.getD (l.length - 1) (0, 0)).2 + q)
theorem bump_len (l : List Fl) (q : Int) : (bump l q).length = l.length := by simp [bump]
theorem bump_last (l : List Fl) (q : Int) : lastDay (bump l q) = lastDay l := by
  unfold lastDay
  rw [bump_len]
  unfold bump
  rcases Nat.eq_zero_or_pos l.length with h | h
  · have : l = [] := List.eq_nil_of_length_eq_zero h
    subst this; rfl
  · rw [getD_at _ _ _ (by simp; omega), List.getElem_set, if_pos rfl]; rfl
theorem lastDay_snoc (l : List Fl) (f : Fl) : lastDay (l ++ [f]) = f.1 := by
  unfold lastDay
  rw [getD_at _ _ _ (by simp)]; simp
def lotStep (rule size : Int) (s : List Fl × Int) (f : Fl) : List Fl × Int :=
  if rule = 1 then
    if s.2 < f.2 then (s.1 ++ [(f.1, lotUp (f.2 - s.2) size)], lotUp (f.2 - s.2) size - (f.2 - s.2)) else (s.1, s.2 - f.2)
  else if rule = 2 ∧ 0 < s.1.length ∧ f.1 < lastDay s.1 + size then (bump s.1 f.2, s.2) else (s.1 ++ [f], s.2)
def lotTo (rule size : Int) (needs : List Fl) (k : Nat) : List Fl × Int := (needs.take k).foldl (lotStep rule size) ([], 0)
theorem lotTo_succ (rule size : Int) (needs : List Fl) (k : Nat) (h : k < needs.length) : lotTo rule size needs (k + 1) = lotStep rule size (lotTo rule size needs k) needs[k] := by
  unfold lotTo
  rw [List.take_succ_eq_append_getElem h, List.foldl_append]; rfl
/-- What holds of the lots at each place. -/
theorem lotTo_parts (rule size : Int) (needs : List Fl) (hf : areFlows needs = true) (hr : lotRule rule size = true) (k : Nat) (hk : k ≤ needs.length) :
    (lotTo rule size needs k).1.length ≤ k ∧ 0 ≤ (lotTo rule size needs k).2 ∧ (lotTo rule size needs k).2 ≤ 999 ∧ ∀ f ∈ (lotTo rule size needs k).1, 0 ≤ f.1 ∧ f.1 ≤ 999 ∧ 0 ≤ f.2 ∧ f.2 ≤ 1000001000 * k := by
  induction k with
  | zero => simp [lotTo]
  | succ k ih =>
    obtain ⟨h1, h2, h3, h4⟩ := ih (by omega)
    obtain ⟨⟨m1, m2⟩, m3, m4⟩ := areFlows_mem hf needs[k] (List.getElem_mem (by omega))
    rw [lotTo_succ rule size needs k (by omega)]
    have hmore : ∀ f ∈ (lotTo rule size needs k).1, 0 ≤ f.1 ∧ f.1 ≤ 999 ∧ 0 ≤ f.2 ∧ f.2 ≤ 1000001000 * ((k + 1 : Nat) : Int) := fun f hx => by have := h4 f hx; omega
    have hone : ∀ (l : List Fl) (x : Fl), (∀ f ∈ l, 0 ≤ f.1 ∧ f.1 ≤ 999 ∧ 0 ≤ f.2 ∧ f.2 ≤ 1000001000 * ((k + 1 : Nat) : Int)) → (0 ≤ x.1 ∧ x.1 ≤ 999 ∧ 0 ≤ x.2 ∧ x.2 ≤ 1000001000 * ((k + 1 : Nat) : Int)) →
        ∀ f ∈ l ++ [x], 0 ≤ f.1 ∧ f.1 ≤ 999 ∧ 0 ≤ f.2 ∧ f.2 ≤ 1000001000 * ((k + 1 : Nat) : Int) := fun l x ha hb f hx => by
      rcases List.mem_append.1 hx with h | h
      · exact ha f h
      · have : f = x := by simpa using h
        rw [this]; exact hb
    unfold lotStep
    split
    · rename_i hr1
      have hs : 1 ≤ size ∧ size ≤ 1000 := by
        subst hr1
        simp [lotRule, inB] at hr
        exact hr
      split
      · obtain ⟨b1, b2, b3, b4, b5⟩ := lotUp_bd (needs[k].2 - (lotTo rule size needs k).2) size hs.1 hs.2 (by omega) (by omega)
        refine ⟨by simp; omega, by simp only; omega, by simp only; omega, hone _ _ hmore ⟨m1, m2, by simp only; omega, by simp only; omega⟩⟩
      · exact ⟨by simp only; omega, by simp only; omega, by simp only; omega, hmore⟩
    · split
      · rename_i hc
        obtain ⟨_, c1, _⟩ := hc
        have hlast : (lotTo rule size needs k).1.length - 1 < (lotTo rule size needs k).1.length := by omega
        obtain ⟨l1, l2, l3, l4⟩ := h4 _ (List.getElem_mem hlast)
        refine ⟨by simp only [bump_len]; omega, h2, h3, fun f hx => ?_⟩
        simp only [bump] at hx
        rcases List.mem_or_eq_of_mem_set hx with h | h
        · exact hmore f h
        · rw [h]
          unfold lastDay
          rw [getD_at _ _ _ hlast]
          exact ⟨l1, l2, by simp only; omega, by simp only; omega⟩
      · exact ⟨by simp; omega, h2, h3, hone _ _ hmore ⟨m1, m2, by omega, by omega⟩⟩
def lotsFor (needs : List Fl) (rule size : Int) : List Fl × Bool :=
  if (lotRule rule size && areFlows needs) && areFlows (lotTo rule size needs needs.length).1 then ((lotTo rule size needs needs.length).1, true) else ([], false)
theorem lotsFor_no {needs : List Fl} {rule size : Int} (h : ((lotRule rule size && areFlows needs) && areFlows (lotTo rule size needs needs.length).1) = false) : lotsFor needs rule size = ([], false) := by unfold lotsFor; rw [h]; rfl
theorem lotsFor_yes {needs : List Fl} {rule size : Int} (h : ((lotRule rule size && areFlows needs) && areFlows (lotTo rule size needs needs.length).1) = true) : lotsFor needs rule size = ((lotTo rule size needs needs.length).1, true) := by unfold lotsFor; rw [h]; rfl
theorem lotsFor_flows (needs : List Fl) (rule size : Int) : areFlows (lotsFor needs rule size).1 = true := by
  unfold lotsFor
  split
  · rename_i h
    simp only [Bool.and_eq_true] at h
    exact h.2
  · rfl
theorem lotsFor_len (needs : List Fl) (rule size : Int) : (lotsFor needs rule size).1.length ≤ 16777216 := by
  have := (areFlows_parts (lotsFor_flows needs rule size)).2
  omega
end Go.Proofs.YtlnkofnfgemfdaaGreat
