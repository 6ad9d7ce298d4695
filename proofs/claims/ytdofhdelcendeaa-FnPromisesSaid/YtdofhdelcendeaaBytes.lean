/- The bytes a law is drawn from; the laws' own small helpers. -/
import Derived.Test.YtdofhdelcendeaaDraw2
namespace Go.Proofs.Ytdofhdelcendeaa
open Go.RowKit
def byteF : Flat Int := ⟨fun x => [.int .u8 x], 1, fun _ => rfl⟩
def okByte (x : Int) : Prop := 0 ≤ x ∧ x ≤ 255
theorem bytesAt_of {w : World} {A : Option Addr} {n : Nat} {l : List Int} (h : RowsIn byteF w A n l) (hok : ∀ x ∈ l, okByte x) : BytesAt w w.heap.size A n := by
  have hn := h.1
  refine ⟨by have := h.len; omega, fun k hk => ?_⟩
  obtain ⟨b, o, e, hlt, hc⟩ := h.at_ (k := k) (by omega)
  have hx := hok _ (List.getElem_mem (show k < l.length by omega))
  refine ⟨b, o, l[k]'(by omega), e, hlt, hx.1, hx.2, ?_⟩
  have := hc 0 (.int .u8 (l[k]'(by omega))) rfl
  rw [show o + k * byteF.sz + 0 = o + k by simp [byteF]] at this
  exact this
theorem big_yes (A : Option Addr) (n c : Nat) (w : World) (h : 1048576 < n) (hn : n ≤ 9223372036854775807) : Calls Try.prog 32 #[.slice A n c] w fun e w' => e = .returned (.bool true) ∧ w = w' := by
  go_enter Try.func32, Try.ntmps32
  go_wp2
  go_ret
  exact ⟨ret_bool (decide_eq_true (by omega)), rfl⟩
theorem big_no (A : Option Addr) (n c : Nat) (w : World) (h : ¬ 1048576 < n) : Calls Try.prog 32 #[.slice A n c] w fun e w' => e = .returned (.bool false) ∧ w = w' := by
  have h2 : (n : Int) ≤ 1048576 := by omega
  go_enter Try.func32, Try.ntmps32
  go_wp2
  go_ret
  exact ⟨ret_bool (decide_eq_false (by omega)), rfl⟩
set_option maxRecDepth 100000 in
set_option maxHeartbeats 1000000 in
theorem sameFlows_yes (A B : Option Addr) (n m c d : Nat) (l : List Fl) (w : World) (ha : FlowsIn w A n l) (hb : FlowsIn w B m l) : Calls Try.prog 41 #[.slice A n c, .slice B m d] w fun e w' => e = .returned (.bool true) ∧ Drew w w' := by
  have hn := ha.len
  obtain rfl := ha.1
  obtain rfl := hb.1
  go_enter Try.func41, Try.ntmps41
  go_wp2
  go_loopw [5] (fun i wr => ∃ k : Nat, k ≤ l.length ∧ i = .int .i64 k ∧ Drew w wr) (fun i _ => l.length - (intOf i).toNat)
  case atStart => exact ⟨0, by omega, rfl, Drew.refl _⟩
  case round =>
    obtain ⟨k, hk, rfl, HD⟩ := hrel
    by_cases hlt : k < l.length
    · obtain ⟨b1, o1, rfl, _, hc0, hc1⟩ := flow_at (ha.keep (HD.below _)) hlt
      obtain ⟨b2, o2, rfl, _, hd0, hd1⟩ := flow_at (hb.keep (HD.below _)) hlt
      go_wp2
      go_quiet (fail)
      go_wp2
      go_roundw
      case rel => exact ⟨k + 1, by omega, by go_num, HD.more _⟩
      case measure => simp [intOf]; omega
    · obtain rfl : k = l.length := by omega
      go_wp2
      go_ret
      exact ⟨rfl, HD⟩
end Go.Proofs.Ytdofhdelcendeaa
