/- The walks of LackOf, IsKept. -/
import Derived.Test.YtdofhdelcendeaaFlowUp
namespace Go.Proofs.Ytdofhdelcendeaa
open Go.RowKit
theorem lackOf_no {dem sup : List Fl} (h : (areFlows dem && areFlows sup) = false) : lackOf dem sup = (0, false) := by simp [lackOf, h]
theorem lackOf_yes {dem sup : List Fl} (h1 : areFlows dem = true) (h2 : areFlows sup = true) : lackOf dem sup = (lackTo dem sup dem.length, true) := by simp [lackOf, h1, h2]
theorem lackTo_succ (dem sup : List Fl) (k : Nat) (h : k < dem.length) : lackTo dem sup (k + 1) = max (lackTo dem sup k) (flowUpTo dem dem[k].1 - flowUpTo sup dem[k].1) := by
  rw [lackTo, getD_at _ _ _ h]

theorem max_if (a b : Int) : (if a < b then b else a) = max a b := by split <;> omega
theorem min_if (a b : Int) : (if b < a then b else a) = min a b := by split <;> omega
set_option maxRecDepth 100000 in
set_option maxHeartbeats 1000000 in
theorem implLackOf_any (A B : Option Addr) (n m c c2 : Nat) (dem sup : List Fl) (w : World) (ha : FlowsIn w A n dem) (hb : FlowsIn w B m sup) :
    Calls Try.prog 34 #[.slice A n c, .slice B m c2] w fun e w' => e = .returned (pairV (lackOf dem sup)) ∧ Below w.heap.size w w' := by
  have hn := ha.len
  have hm := hb.len
  obtain rfl := ha.1
  obtain rfl := hb.1
  cases h1 : areFlows dem
  · go_enter Try.func34, Try.ntmps34
    go_wp2_with fail
    refine (implAreFlows_any _ _ _ dem _ ha).mono ?_
    rintro e w1 ⟨rfl, HD⟩
    go_wp2_with fail
    go_ret2
    exact ⟨ret_pair (p := (0, false)) (lackOf_no (by simp [h1])).symm, HD⟩
  cases h2 : areFlows sup
  · go_enter Try.func34, Try.ntmps34
    go_wp2_with fail
    refine (implAreFlows_any _ _ _ dem _ ha).mono ?_
    rintro e w1 ⟨rfl, HD⟩
    go_wp2_with fail
    refine (implAreFlows_any _ _ _ sup _ (hb.keep HD)).mono ?_
    rintro e w2 ⟨rfl, HD2⟩
    go_wp2_with fail
    go_ret2
    exact ⟨ret_pair (p := (0, false)) (lackOf_no (by simp [h2])).symm, below_on HD HD2⟩
  go_enter Try.func34, Try.ntmps34
  go_wp2_with fail
  refine (implAreFlows_any _ _ _ dem _ ha).mono ?_
  rintro e w1 ⟨rfl, HD⟩
  go_wp2_with fail
  refine (implAreFlows_any _ _ _ sup _ (hb.keep HD)).mono ?_
  rintro e w2 ⟨rfl, HD2⟩
  have HD12 := below_on HD HD2
  go_wp2_with fail
  go_loopw [6, 19] (fun s i wr => ∃ k : Nat, k ≤ dem.length ∧ i = .int .i64 k ∧ s = .int .i64 (lackTo dem sup k) ∧ Below w.heap.size w wr) (fun _ i _ => dem.length - (intOf i).toNat)
  case atStart => exact ⟨0, by omega, rfl, rfl, HD12⟩
  case round =>
    obtain ⟨k, hk, rfl, rfl, HR⟩ := hrel
    by_cases hlt : k < dem.length
    · obtain ⟨b, o, rfl, _, hc1, hc2⟩ := flow_at (ha.keep HR) hlt
      have HT := Lib.hid (lackTo_succ dem sup k hlt)
      obtain ⟨b1, b2⟩ := flowUpTo_bd dem dem[k].1
      obtain ⟨b3, b4⟩ := flowUpTo_bd sup dem[k].1
      obtain ⟨b5, b6⟩ := lackTo_bd dem sup k
      have hsz := HR.size
      have HA := HR.alloc hsz (.cells #[.int .i64 dem[k].1, .int .i64 dem[k].2] 51)
      have hwr : IntKind.i64.wrap (flowUpTo dem dem[k].1 - flowUpTo sup dem[k].1) = flowUpTo dem dem[k].1 - flowUpTo sup dem[k].1 := IntWalk.i64_in _ (by omega)
      go_wp2_with fail
      go_region_held3 (fun w' => w'.cell? ⟨wr.heap.size, 0, none⟩ = some (.int .i64 dem[k].1) ∧ wr.heap.size < w'.heap.size ∧ Below w.heap.size w w')
        (first
          | exact ⟨by simp [go_sem], by simp, HA.drew⟩
          | (go_split_ands; refine ⟨?_, ?_, ?_⟩ <;> with_reducible assumption)
          | (go_split_ands; exact ⟨(hb3.cell (by with_reducible assumption)).trans (by with_reducible assumption), Nat.lt_of_lt_of_le (by with_reducible assumption) hb3.size, below_on (by with_reducible assumption) hb3⟩))
        (first
          | ((with_reducible refine (implFlowUpTo_any (some ⟨b, o, none⟩) dem.length c dem _ _ (ha.keep ?_)).mono ?_); (go_split_ands; with_reducible assumption); rintro e w3 ⟨rfl, hb3⟩)
          | ((with_reducible refine (implFlowUpTo_any B sup.length c2 sup _ _ (hb.keep ?_)).mono ?_); (go_split_ands; with_reducible assumption); rintro e w3 ⟨rfl, hb3⟩))
      clear hwr
      go_split_ands
      go_wp2
      go_roundw
      case rel => exact ⟨k + 1, by omega, by go_num, by rw [HT.out, ← max_if], by with_reducible assumption⟩
      case measure => simp [intOf]; omega
    · obtain rfl : k = dem.length := by omega
      go_wp2_with fail
      go_ret2
      exact ⟨ret_pair (p := (_, true)) (lackOf_yes h1 h2).symm, HR⟩
end Go.Proofs.Ytdofhdelcendeaa
