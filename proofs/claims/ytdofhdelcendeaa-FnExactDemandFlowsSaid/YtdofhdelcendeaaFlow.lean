/- The walks of the functions on flows that all later ones use. -/
import Derived.Test.YtdofhdelcendeaaBase
import Derived.StillTailTactics
namespace Go.Proofs.Ytdofhdelcendeaa
open Go.RowKit

/-- A flow: its day and its quantity. -/
abbrev Fl := Int × Int
def flF : Flat Fl := ⟨fun f => [.int .i64 f.1, .int .i64 f.2], 2, fun _ => rfl⟩
abbrev FlowsIn (w : World) (A : Option Addr) (n : Nat) (l : List Fl) : Prop := RowsIn flF w A n l
theorem flow_at {w : World} {A : Option Addr} {n : Nat} {l : List Fl} (h : FlowsIn w A n l) {k : Nat} (hk : k < l.length) :
    ∃ b o, A = some ⟨b, o, none⟩ ∧ b < w.heap.size ∧ w.cell? ⟨b, o + k * 2, none⟩ = some (.int .i64 l[k].1) ∧ w.cell? ⟨b, o + k * 2 + 1, none⟩ = some (.int .i64 l[k].2) := by
  obtain ⟨b, o, e, hlt, hc⟩ := h.at_ hk
  exact ⟨b, o, e, hlt, hc 0 _ rfl, hc 1 _ rfl⟩

def okFlow (l : List Fl) (k : Nat) : Bool :=
  inB (l.getD k (0, 0)).1 0 999 && (inB (l.getD k (0, 0)).2 1 1000000000 && (decide (k = 0) || decide ((l.getD (k - 1) (0, 0)).1 < (l.getD k (0, 0)).1)))
def areFlows (l : List Fl) : Bool := (List.range l.length).all (okFlow l) && decide ((l.length : Int) ≤ 40)
theorem areFlows_no {l : List Fl} {k : Nat} (hk : k < l.length) (h : okFlow l k = false) : areFlows l = false := by
  unfold areFlows
  have : (List.range l.length).all (okFlow l) = false := by rw [List.all_eq_false]; exact ⟨k, by simpa using hk, by simp [h]⟩
  simp [this]
theorem areFlows_end {l : List Fl} (h : ∀ j < l.length, okFlow l j = true) : areFlows l = decide ((l.length : Int) ≤ 40) := by
  unfold areFlows
  have : (List.range l.length).all (okFlow l) = true := by rw [List.all_eq_true]; intro x hx; exact h x (by simpa using hx)
  simp [this]
theorem getD_at {α : Type} (l : List α) (k : Nat) (d : α) (h : k < l.length) : l.getD k d = l[k] := by
  rw [List.getD_eq_getElem?_getD, List.getElem?_eq_getElem h]; rfl


set_option maxRecDepth 100000 in
set_option maxHeartbeats 1000000 in
theorem specAreFlows_any (A : Option Addr) (n c : Nat) (l : List Fl) (w : World) (hl : FlowsIn w A n l) :
    Calls Try.prog 40 #[.slice A n c] w fun e w' => e = .returned (.bool (areFlows l)) ∧ Drew w w' := by
  have hn := hl.len
  obtain rfl := hl.1
  go_enter Try.func40, Try.ntmps40
  go_wp2
  go_loopw [3] (fun i wr => ∃ k : Nat, k ≤ l.length ∧ i = .int .i64 k ∧ Hid (∀ j < k, okFlow l j = true) ∧ Drew w wr) (fun i _ => l.length - (intOf i).toNat)
  case atStart => exact ⟨0, by omega, rfl, fun j h => absurd h (by omega), Drew.refl _⟩
  case round =>
    obtain ⟨k, hk, rfl, HI, HD⟩ := hrel
    by_cases hlt : k < l.length
    · obtain ⟨b, o, rfl, _, hc1, hc2⟩ := flow_at (hl.keep (HD.below _)) hlt
      have HG : Hid (l.getD k (0, 0) = l[k]) := getD_at _ _ _ hlt
      cases hd : inB l[k].1 0 999
      · go_wp2
        go_quiet ((go_at_call 68; exact quietS (l1In_any _ _ _)))
        go_wp2
        go_ret
        exact ⟨ret_bool (areFlows_no hlt (by unfold okFlow; rw [HG.out, hd]; rfl)).symm, HD.more _⟩
      cases hq : inB l[k].2 1 1000000000
      · go_wp2
        go_quiet ((go_at_call 68; exact quietS (l1In_any _ _ _)))
        go_wp2
        go_ret
        exact ⟨ret_bool (areFlows_no hlt (by unfold okFlow; rw [HG.out, hd, hq]; rfl)).symm, HD.more _⟩
      have hnext : ∀ hb : okFlow l k = true, ∀ j < k + 1, okFlow l j = true := fun hb j hj => by
        rcases Nat.lt_or_ge j k with h1 | h1
        · exact HI.out j h1
        · rw [show j = k by omega]; exact hb
      have HX := Lib.hid hnext; clear hnext
      by_cases h0 : k = 0
      · have hz1 : decide (0 < k) = false := by simp; omega
        have hz2 : decide ((0 : Int) < (k : Int)) = false := by simp; omega
        have H0 := Lib.hid h0; clear h0
        go_wp2
        go_quiet ((go_at_call 68; exact quietS (l1In_any _ _ _)))
        go_wp2
        go_roundw
        case rel => exact ⟨k + 1, by omega, by go_num, HX.out (by unfold okFlow; rw [HG.out, hd, hq]; simp [H0.out]), HD.more _⟩
        case measure => simp [intOf]; omega
      · have hlt2 : k - 1 < l.length := by omega
        obtain ⟨b2, o2, e2, _, hc3, _⟩ := flow_at (hl.keep (HD.below _)) hlt2
        obtain ⟨rfl, rfl⟩ : b = b2 ∧ o = o2 := by simpa using e2
        have hz1 : decide (0 < k) = true := by simp; omega
        have hz2 : decide ((0 : Int) < (k : Int)) = true := by simp; omega
        have hi1 : (0 : Int) ≤ (k : Int) - 1 := by omega
        have hi2 : (k : Int) - 1 < (l.length : Int) := by omega
        have hi3 : ((k : Int) - 1).toNat = k - 1 := by omega
        have HG2 : Hid (l.getD (k - 1) (0, 0) = l[k - 1]) := getD_at _ _ _ hlt2
        by_cases hge : l[k - 1].1 < l[k].1
        · have hz3 : decide (l[k].1 ≤ l[k - 1].1) = false := by simp; omega
          go_wp2
          go_quiet ((go_at_call 68; exact quietS (l1In_any _ _ _)))
          go_wp2
          go_roundw
          case rel => exact ⟨k + 1, by omega, by go_num, HX.out (by unfold okFlow; rw [HG.out, HG2.out, hd, hq]; simp; exact .inr (by assumption)), HD.more _⟩
          case measure => simp [intOf]; omega
        · have hge2 : l[k].1 ≤ l[k - 1].1 := by omega
          have hz3 : decide (l[k].1 ≤ l[k - 1].1) = true := by simp; omega
          go_wp2
          go_quiet ((go_at_call 68; exact quietS (l1In_any _ _ _)))
          go_wp2
          go_ret
          exact ⟨ret_bool (areFlows_no hlt (by unfold okFlow; rw [HG.out, HG2.out, hd, hq]; simp; omega)).symm, HD.more _⟩
    · obtain rfl : k = l.length := by omega
      go_wp2
      go_ret
      exact ⟨ret_bool (areFlows_end HI.out).symm, HD⟩

set_option maxRecDepth 100000 in
set_option maxHeartbeats 1000000 in
theorem implAreFlows_any (A : Option Addr) (n c : Nat) (l : List Fl) (w : World) (hl : FlowsIn w A n l) :
    Calls Try.prog 71 #[.slice A n c] w fun e w' => e = .returned (.bool (areFlows l)) ∧ Below w.heap.size w w' := by
  have hn := hl.len
  obtain rfl := hl.1
  go_enter Try.func71, Try.ntmps71
  go_wp2
  go_loopw [7] (fun i wr => ∃ k : Nat, k ≤ l.length ∧ i = .int .i64 k ∧ Hid (∀ j < k, okFlow l j = true) ∧ Below w.heap.size w wr) (fun i _ => l.length - (intOf i).toNat)
  case atStart => exact ⟨0, by omega, rfl, fun j h => absurd h (by omega), Below.refl _ _⟩
  case round =>
    obtain ⟨k, hk, rfl, HI, HD⟩ := hrel
    by_cases hlt : k < l.length
    · obtain ⟨b, o, rfl, hb, hc1, hc2⟩ := flow_at (hl.keep HD) hlt
      have hsz := HD.size
      have HG : Hid (l.getD k (0, 0) = l[k]) := getD_at _ _ _ hlt
      cases hd : inB l[k].1 0 999
      · go_wp2
        go_quiet ((go_at_call 72; exact quietS (in_any _ _ _)))
        go_wp2
        go_ret
        exact ⟨ret_bool (areFlows_no hlt (by unfold okFlow; rw [HG.out, hd]; rfl)).symm, below_drewN (HD.alloc (by omega) _) _⟩
      cases hq : inB l[k].2 1 1000000000
      · go_wp2
        go_quiet ((go_at_call 72; exact quietS (in_any _ _ _)))
        go_wp2
        go_ret
        exact ⟨ret_bool (areFlows_no hlt (by unfold okFlow; rw [HG.out, hd, hq]; rfl)).symm, below_drewN (HD.alloc (by omega) _) _⟩
      have hnext : ∀ hb : okFlow l k = true, ∀ j < k + 1, okFlow l j = true := fun hb j hj => by
        rcases Nat.lt_or_ge j k with h1 | h1
        · exact HI.out j h1
        · rw [show j = k by omega]; exact hb
      have HX := Lib.hid hnext; clear hnext
      by_cases h0 : k = 0
      · have hz1 : decide (0 < k) = false := by simp; omega
        have hz2 : decide ((0 : Int) < (k : Int)) = false := by simp; omega
        have H0 := Lib.hid h0; clear h0
        go_wp2
        go_quiet ((go_at_call 72; exact quietS (in_any _ _ _)))
        go_wp2
        go_roundw
        case rel => exact ⟨k + 1, by omega, by go_num, HX.out (by unfold okFlow; rw [HG.out, hd, hq]; simp [H0.out]), below_drewN (HD.alloc (by omega) _) _⟩
        case measure => simp [intOf]; omega
      · have hlt2 : k - 1 < l.length := by omega
        obtain ⟨b2, o2, e2, _, hc3, _⟩ := flow_at (hl.keep HD) hlt2
        obtain ⟨rfl, rfl⟩ : b = b2 ∧ o = o2 := by simpa using e2
        have hz1 : decide (0 < k) = true := by simp; omega
        have hz2 : decide ((0 : Int) < (k : Int)) = true := by simp; omega
        have hi1 : (0 : Int) ≤ (k : Int) - 1 := by omega
        have hi2 : (k : Int) - 1 < (l.length : Int) := by omega
        have hi3 : ((k : Int) - 1).toNat = k - 1 := by omega
        have HG2 : Hid (l.getD (k - 1) (0, 0) = l[k - 1]) := getD_at _ _ _ hlt2
        have hc4 := World.cell?_alloc_lt wr (.cells #[.int .i64 l[k].1, .int .i64 l[k].2] 51) ⟨b, o + (k - 1) * 2, none⟩ hb
        rw [hc3] at hc4
        by_cases hge : l[k - 1].1 < l[k].1
        · have hz3 : decide (l[k].1 ≤ l[k - 1].1) = false := by simp; omega
          go_wp2
          go_quiet ((go_at_call 72; exact quietS (in_any _ _ _)))
          go_wp2
          go_roundw
          case rel => exact ⟨k + 1, by omega, by go_num, HX.out (by unfold okFlow; rw [HG.out, HG2.out, hd, hq]; simp; exact .inr (by assumption)), below_drewN (HD.alloc (by omega) _) _⟩
          case measure => simp [intOf]; omega
        · have hge2 : l[k].1 ≤ l[k - 1].1 := by omega
          have hz3 : decide (l[k].1 ≤ l[k - 1].1) = true := by simp; omega
          go_wp2
          go_quiet ((go_at_call 72; exact quietS (in_any _ _ _)))
          go_wp2
          go_ret
          exact ⟨ret_bool (areFlows_no hlt (by unfold okFlow; rw [HG.out, HG2.out, hd, hq]; simp; omega)).symm, below_drewN (HD.alloc (by omega) _) _⟩
    · obtain rfl : k = l.length := by omega
      go_wp2
      go_ret
      exact ⟨ret_bool (areFlows_end HI.out).symm, HD⟩
end Go.Proofs.Ytdofhdelcendeaa
