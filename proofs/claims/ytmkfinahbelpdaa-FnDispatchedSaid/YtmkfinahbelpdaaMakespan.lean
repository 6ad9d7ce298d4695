/- The walks of MakespanOf and FinishOf. -/
import Derived.Test.YtmkfinahbelpdaaSlotTo
namespace Go.Proofs.Ytmkfinahbelpdaa
open Go.RowKit
theorem max_if (a b : Int) : (if a < b then b else a) = max a b := by split <;> omega
def makespanTo (l : List Slt) (k : Nat) : Int := (l.take k).foldl (fun s x => max s x.2.2.2.2) 0
theorem makespanTo_succ (l : List Slt) (k : Nat) (h : k < l.length) : makespanTo l (k + 1) = max (makespanTo l k) l[k].2.2.2.2 := by
  unfold makespanTo
  rw [List.take_succ_eq_append_getElem h, List.foldl_append]; rfl
def makespanOf (l : List Slt) : Int := makespanTo l l.length
def finishTo (l : List Slt) (j : Int) (k : Nat) : Int := (l.take k).foldl (fun s x => if (x.1 == j) then max s x.2.2.2.2 else s) 0
theorem finishTo_succ (l : List Slt) (j : Int) (k : Nat) (h : k < l.length) : finishTo l j (k + 1) = if (l[k].1 == j) then max (finishTo l j k) l[k].2.2.2.2 else finishTo l j k := by
  unfold finishTo
  rw [List.take_succ_eq_append_getElem h, List.foldl_append]; rfl
def finishOf (l : List Slt) (j : Int) : Int := finishTo l j l.length
set_option maxRecDepth 100000 in
set_option maxHeartbeats 1000000 in
theorem implMakespanOf_any (A : Option Addr) (n c : Nat) (l : List Slt) (w : World) (ha : SlotsIn w A n l) :
    Calls Try.prog 15 #[.slice A n c] w fun e w' => e = .returned (.int .i64 (makespanOf l)) ∧ Below w.heap.size w w' := by
  have hn := ha.len
  obtain rfl := ha.1
  go_enter Try.func15, Try.ntmps15
  go_wp2
  go_loopw [3, 8] (fun s i wr => ∃ k : Nat, k ≤ l.length ∧ i = .int .i64 k ∧ s = .int .i64 (makespanTo l k) ∧ Below w.heap.size w wr) (fun _ i _ => l.length - (intOf i).toNat)
  case atStart => exact ⟨0, by omega, rfl, rfl, Below.refl _ _⟩
  case round =>
    obtain ⟨k, hk, rfl, rfl, HR⟩ := hrel
    by_cases hlt : k < l.length
    · obtain ⟨b, o, rfl, _, hc0, hc1, hc2, hc3, hc4⟩ := slot_at (ha.keep HR) hlt
      have hsz := HR.size
      have HT := Lib.hid (makespanTo_succ l k hlt)
      go_wp2
      go_roundw
      case rel => exact ⟨k + 1, by omega, by go_num, by rw [HT.out]; rw [max_if], HR.alloc hsz _⟩
      case measure => simp [intOf]; omega
    · obtain rfl : k = l.length := by omega
      go_wp2
      go_ret
      exact ⟨rfl, HR⟩
set_option maxRecDepth 100000 in
set_option maxHeartbeats 1000000 in
theorem specFinishOf_any (A : Option Addr) (n c : Nat) (l : List Slt) (j : Int) (w : World) (ha : SlotsIn w A n l) :
    Calls Try.prog 53 #[.slice A n c, .int .i64 j] w fun e w' => e = .returned (.int .i64 (finishOf l j)) ∧ w = w' := by
  have hn := ha.len
  obtain rfl := ha.1
  go_enter Try.func53, Try.ntmps53
  go_wp2
  go_loop [5, 6] (fun s i => ∃ k : Nat, k ≤ l.length ∧ i = .int .i64 k ∧ s = .int .i64 (finishTo l j k)) (fun _ i => l.length - (intOf i).toNat)
  case atStart => exact ⟨0, by omega, rfl, rfl⟩
  case round =>
    obtain ⟨k, hk, rfl, rfl⟩ := hrel
    by_cases hlt : k < l.length
    · obtain ⟨b, o, rfl, _, hc0, hc1, hc2, hc3, hc4⟩ := slot_at ha hlt
      
      have HT := Lib.hid (finishTo_succ l j k hlt)
      cases hj : (l[k].1 == j)
      · have HJ := Lib.hid hj
        go_wp2
        go_round
        case rel => exact ⟨k + 1, by omega, by go_num, by rw [HT.out]; simp [HJ.out]⟩
        case measure => simp [intOf]; omega
      · have HJ := Lib.hid hj
        go_wp2
        go_round
        case rel => exact ⟨k + 1, by omega, by go_num, by rw [HT.out]; simp only [HJ.out, if_true]; rw [max_if]⟩
        case measure => simp [intOf]; omega
    · obtain rfl : k = l.length := by omega
      go_wp2
      go_ret
      exact ⟨rfl, rfl⟩
set_option maxRecDepth 100000 in
set_option maxHeartbeats 1000000 in
theorem implFinishOf_any (A : Option Addr) (n c : Nat) (l : List Slt) (j : Int) (w : World) (ha : SlotsIn w A n l) :
    Calls Try.prog 22 #[.slice A n c, .int .i64 j] w fun e w' => e = .returned (.int .i64 (finishOf l j)) ∧ Below w.heap.size w w' := by
  have hn := ha.len
  obtain rfl := ha.1
  go_enter Try.func22, Try.ntmps22
  go_wp2
  go_loopw [5, 10] (fun s i wr => ∃ k : Nat, k ≤ l.length ∧ i = .int .i64 k ∧ s = .int .i64 (finishTo l j k) ∧ Below w.heap.size w wr) (fun _ i _ => l.length - (intOf i).toNat)
  case atStart => exact ⟨0, by omega, rfl, rfl, Below.refl _ _⟩
  case round =>
    obtain ⟨k, hk, rfl, rfl, HR⟩ := hrel
    by_cases hlt : k < l.length
    · obtain ⟨b, o, rfl, _, hc0, hc1, hc2, hc3, hc4⟩ := slot_at (ha.keep HR) hlt
      have hsz := HR.size
      have HT := Lib.hid (finishTo_succ l j k hlt)
      cases hj : (l[k].1 == j)
      · have HJ := Lib.hid hj
        go_wp2
        go_roundw
        case rel => exact ⟨k + 1, by omega, by go_num, by rw [HT.out]; simp [HJ.out], HR.alloc hsz _⟩
        case measure => simp [intOf]; omega
      · have HJ := Lib.hid hj
        go_wp2
        go_roundw
        case rel => exact ⟨k + 1, by omega, by go_num, by rw [HT.out]; simp only [HJ.out, if_true]; rw [max_if], HR.alloc hsz _⟩
        case measure => simp [intOf]; omega
    · obtain rfl : k = l.length := by omega
      go_wp2
      go_ret
      exact ⟨rfl, HR⟩
end Go.Proofs.Ytmkfinahbelpdaa
